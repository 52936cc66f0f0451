/- A part of the proof of the statement that this claim hands in: what single functions come to. There are no conditions. -/
import Derived.Test.YtjlpfijbnflknaaDoorBpFuns
import Derived.Test.YtjlpfijbnflknaaDoorBpEv29
import Derived.Test.YtjlpfijbnflknaaDoorBpEv31
set_option linter.unusedVariables false
set_option linter.unusedSimpArgs false
set_option linter.unusedSectionVars false
namespace Go.Proofs.YtjlpfijbnflknaaDoor.bounceParts
open Go.Ev hiding Comes
/-- The table of octet: class, first byte, last byte. -/
def tab : List (Int × Nat × Nat) := [(1, 65, 90), (1, 97, 122), (2, 48, 57), (3, 65, 90), (3, 97, 122), (3, 48, 57), (4, 48, 57), (4, 65, 70), (4, 97, 102), (5, 33, 33), (5, 35, 39), (5, 42, 43), (5, 45, 45), (5, 47, 47), (5, 61, 61), (5, 63, 63), (5, 94, 96), (5, 123, 126), (6, 32, 33), (6, 35, 91), (6, 93, 126), (7, 33, 90), (7, 94, 126), (8, 33, 60), (8, 62, 126), (9, 33, 42), (9, 44, 60), (9, 62, 126), (10, 45, 45), (11, 33, 57), (11, 59, 126), (12, 9, 9), (12, 32, 126), (13, 0, 127), (14, 128, 255)]
def tabCells (x : Int × Nat × Nat) : List EV := [.int .i64 x.1, .int .u8 (x.2.1 : Nat), .int .u8 (x.2.2 : Nat)]
def tabRow : List EV := (tab.map tabCells).flatten
/-- What the package-level variables hold that are read: the table of octet; how long a text may be that is searched for by the machine's own search: anything. -/
class GG where
  g : Globs
  tab : g g_octet_stretches = some tabRow
  max : ∃ x, g g_bytealg_MaxLen = some [.int .i64 x]
def G [GG] : Globs := GG.g
theorem g_tab [GG] : G g_octet_stretches = some tabRow := GG.tab
theorem g_max [GG] : ∃ x, G g_bytealg_MaxLen = some [.int .i64 x] := GG.max
def maxG (x : Int) : Globs := fun g => if g = g_octet_stretches then some tabRow else if g = g_bytealg_MaxLen then some [.int .i64 x] else none
@[reducible] def maxGG (x : Int) : GG := ⟨maxG x, if_pos rfl, x, by rw [maxG, if_neg (by decide), if_pos rfl]⟩
end Go.Proofs.YtjlpfijbnflknaaDoor.bounceParts

namespace Go.Proofs.YtjlpfijbnflknaaDoor.bounceParts
open Go.Ev hiding Comes

def hit (c : Int) (b : Nat) (x : Int × Nat × Nat) : Bool := (x.1 == c) && (decide (x.2.1 ≤ b) && decide (b ≤ x.2.2))
def isT (c : Int) (b : Nat) : Bool := tab.any (hit c b)
/-- Is a byte of a class? -/
def isF (c : Int) (b : Nat) : Bool := isT c b || ((c == 5 || c == 10) && isT 3 b)
/-- How many bytes at the beginning are of a class. -/
def sp (c : Int) (s : List UInt8) : Nat := (s.takeWhile fun b => isF c b.toNat).length
theorem sp_le (c : Int) (s : List UInt8) : sp c s ≤ s.length := tw_le s
/-- A byte as a capital. -/
def up (b : UInt8) : UInt8 := if 97 ≤ b.toNat ∧ b.toNat ≤ 122 then b - 32 else b
def upS (s : List UInt8) : List UInt8 := s.map up
/-- The same but for capitals. -/
def sameU (a b : List UInt8) : Bool := upS a == upS b
end Go.Proofs.YtjlpfijbnflknaaDoor.bounceParts

namespace Go.Proofs.YtjlpfijbnflknaaDoor.bounceParts
open Go.Ev hiding Comes
variable [GG]

/-- The hash of bytes, before it is cut to 32 bits. -/
def poly (l : List UInt8) : Int := l.foldl (fun h b => h * 16777619 + (b.toNat : Int)) 0
theorem poly_snoc (l : List UInt8) (b : UInt8) : poly (l ++ [b]) = poly l * 16777619 + (b.toNat : Int) := by simp [poly]
theorem poly_from : ∀ (l : List UInt8) (h : Int), l.foldl (fun h b => h * 16777619 + (b.toNat : Int)) h = h * 16777619 ^ l.length + poly l
  | [], h => by simp [poly]
  | b :: l, h => by
    have e1 := poly_from l (h * 16777619 + (b.toNat : Int))
    have e2 := poly_from l (0 * 16777619 + (b.toNat : Int))
    simp only [poly, List.foldl_cons, List.length_cons] at e1 e2 ⊢
    rw [e1, e2, Int.pow_succ]
    simp only [Int.add_mul, Int.zero_mul, Int.zero_add, Int.mul_assoc, Int.mul_comm (16777619 ^ l.length) 16777619, Int.add_assoc]
theorem poly_cons (b : UInt8) (l : List UInt8) : poly (b :: l) = (b.toNat : Int) * 16777619 ^ l.length + poly l := by
  have := poly_from l ((0 : Int) * 16777619 + (b.toNat : Int))
  simpa [poly] using this
theorem wrap32 (z : Int) : IntKind.u32.wrap z = z % 4294967296 := by
  unfold IntKind.wrap
  simp [IntKind.bits, IntKind.signed]
theorem poly_take {s : List UInt8} {i : Nat} (h : i < s.length) : poly (s.take (i + 1)) = poly (s.take i) * 16777619 + (s[i].toNat : Int) := by
  rw [List.take_succ_eq_append_getElem h, poly_snoc]
theorem step32 (a : Int) (b : UInt8) : IntKind.u32.wrap (IntKind.u32.wrap (a % 4294967296 * 16777619) + IntKind.u32.wrap (b.toNat : Int)) = (a * 16777619 + (b.toNat : Int)) % 4294967296 := by
  simp only [wrap32]
  rw [← Int.add_emod, Int.add_emod, Int.mul_emod (a % 4294967296), Int.emod_emod_of_dvd _ (Int.dvd_refl _), ← Int.mul_emod, ← Int.add_emod]
theorem pow_mod (a : Int) : ∀ n : Nat, (a % 4294967296) ^ n % 4294967296 = a ^ n % 4294967296
  | 0 => by simp
  | n + 1 => by
    rw [Int.pow_succ, Int.pow_succ, Int.mul_emod, pow_mod a n, Int.emod_emod_of_dvd _ (Int.dvd_refl _), ← Int.mul_emod]
theorem pw_even (p q : Int) (i n : Nat) (h : (p * q ^ i) % 4294967296 = 16777619 ^ n % 4294967296) (he : i % 2 = 0) : (p * (q * q % 4294967296) ^ (i / 2)) % 4294967296 = 16777619 ^ n % 4294967296 := by
  rw [← h]
  have e : i = 2 * (i / 2) := by omega
  have e2 : q ^ i = (q * q) ^ (i / 2) := by
    conv => lhs; rw [e]
    rw [Int.pow_mul]
    congr 1
    rw [Int.pow_succ, Int.pow_succ, Int.pow_zero, Int.one_mul]
  rw [e2, Int.mul_emod, pow_mod, ← Int.mul_emod]
theorem pw_odd (p q : Int) (i n : Nat) (h : (p * q ^ i) % 4294967296 = 16777619 ^ n % 4294967296) (he : i % 2 = 1) : (p * q % 4294967296 * (q * q % 4294967296) ^ (i / 2)) % 4294967296 = 16777619 ^ n % 4294967296 := by
  rw [← h]
  have e : i = 2 * (i / 2) + 1 := by omega
  have e2 : q ^ i = q * (q * q) ^ (i / 2) := by
    conv => lhs; rw [e]
    rw [Int.pow_succ, Int.pow_mul, Int.mul_comm]
    congr 2
    rw [Int.pow_succ, Int.pow_succ, Int.pow_zero, Int.one_mul]
  rw [e2, Int.mul_emod, pow_mod, Int.emod_emod_of_dvd _ (Int.dvd_refl _), ← Int.mul_emod, Int.mul_assoc]
theorem c_bytealg_hashStr_bytes (m : Mem) (x : EV) (s : List UInt8) (hx : BytesAt G m x s) (hN : s.length ≤ 1000000000000) :
    Go.Ev.Comes T G f_bytealg_hashStr_bytes [x] m none ⟨.val (.tuple [.int .u32 (poly s % 4294967296), .int .u32 (16777619 ^ s.length % 4294967296)]), m, none⟩ := by
  refine comes2 T_bytealg_hashStr_bytes rfl fun M hg hlen hlow => ?_
  have hl0 : m.bl.length ≤ M.low := by omega
  have hx := hx.grown hg
  obtain ⟨a0, c0, e0, sx⟩ := hx.slice
  simp only [F_bytealg_hashStr_bytes]
  simp +contextual only [vq, vc, ve, vv, vn, vl, ↓reduceIte, Nat.reduceEqDiff, Nat.reduceAdd, Nat.reduceMul, Nat.reduceSub, Nat.reduceLeDiff, Nat.reduceLT, Nat.reduceBEq, Nat.reduceBNe, reduceCtorEq, Int.reduceBEq, Int.reduceBNe, Int.reduceLT, Int.reduceLE, Int.reduceEq, Int.reduceToNat, Int.reduceAdd, Int.reduceSub, Int.reduceNeg]
  refine loop2 (fun n st => ∃ i A, st = ⟨A, M, [], none⟩ ∧ n = s.length - i ∧ i ≤ s.length ∧ A 0 = x ∧ A 4 = .int .u32 (poly (s.take i) % 4294967296) ∧ A 5 = .int .i64 (i : Nat)) s.length ⟨0, _, rfl, by omega, by omega, by simp +contextual only [vq, vc, ve, vv, vn, vl, ↓reduceIte, Nat.reduceEqDiff, Nat.reduceAdd, Nat.reduceMul, Nat.reduceSub, Nat.reduceLeDiff, Nat.reduceLT, Nat.reduceBEq, Nat.reduceBNe, reduceCtorEq, Int.reduceBEq, Int.reduceBNe, Int.reduceLT, Int.reduceLE, Int.reduceEq, Int.reduceToNat, Int.reduceAdd, Int.reduceSub, Int.reduceNeg], by simp +contextual only [vq, vc, ve, vv, vn, vl, ↓reduceIte, Nat.reduceEqDiff, Nat.reduceAdd, Nat.reduceMul, Nat.reduceSub, Nat.reduceLeDiff, Nat.reduceLT, Nat.reduceBEq, Nat.reduceBNe, reduceCtorEq, Int.reduceBEq, Int.reduceBNe, Int.reduceLT, Int.reduceLE, Int.reduceEq, Int.reduceToNat, Int.reduceAdd, Int.reduceSub, Int.reduceNeg]; rfl, by simp +contextual only [vq, vc, ve, vv, vn, vl, ↓reduceIte, Nat.reduceEqDiff, Nat.reduceAdd, Nat.reduceMul, Nat.reduceSub, Nat.reduceLeDiff, Nat.reduceLT, Nat.reduceBEq, Nat.reduceBNe, reduceCtorEq, Int.reduceBEq, Int.reduceBNe, Int.reduceLT, Int.reduceLE, Int.reduceEq, Int.reduceToNat, Int.reduceAdd, Int.reduceSub, Int.reduceNeg]; rfl⟩ fun J hJ n st hI => ?_
  obtain ⟨i, A, rfl, rfl, hi, A0, A4, A5⟩ := hI
  by_cases hlt : i < s.length
  · obtain ⟨a, cap, q1, hc, ho, hgN, hat⟩ := hx.pos (by rintro rfl; simp at hlt)
    rw [q1] at A0
    simp +contextual only [vq, vc, ve, vv, vn, vl, ↓reduceIte, Nat.reduceEqDiff, Nat.reduceAdd, Nat.reduceMul, Nat.reduceSub, Nat.reduceLeDiff, Nat.reduceLT, Nat.reduceBEq, Nat.reduceBNe, reduceCtorEq, Int.reduceBEq, Int.reduceBNe, Int.reduceLT, Int.reduceLE, Int.reduceEq, Int.reduceToNat, Int.reduceAdd, Int.reduceSub, Int.reduceNeg, A0, A4, A5, hlt, hat i hlt, step32, wsucc hlt (by omega)]
    exact again2 hJ (s.length - (i + 1)) (by omega) ⟨i + 1, _, rfl, rfl, by omega, by simp +contextual only [vq, vc, ve, vv, vn, vl, ↓reduceIte, Nat.reduceEqDiff, Nat.reduceAdd, Nat.reduceMul, Nat.reduceSub, Nat.reduceLeDiff, Nat.reduceLT, Nat.reduceBEq, Nat.reduceBNe, reduceCtorEq, Int.reduceBEq, Int.reduceBNe, Int.reduceLT, Int.reduceLE, Int.reduceEq, Int.reduceToNat, Int.reduceAdd, Int.reduceSub, Int.reduceNeg, A0, q1], by simp +contextual only [vq, vc, ve, vv, vn, vl, ↓reduceIte, Nat.reduceEqDiff, Nat.reduceAdd, Nat.reduceMul, Nat.reduceSub, Nat.reduceLeDiff, Nat.reduceLT, Nat.reduceBEq, Nat.reduceBNe, reduceCtorEq, Int.reduceBEq, Int.reduceBNe, Int.reduceLT, Int.reduceLE, Int.reduceEq, Int.reduceToNat, Int.reduceAdd, Int.reduceSub, Int.reduceNeg, poly_take hlt], by simp +contextual only [vq, vc, ve, vv, vn, vl, ↓reduceIte, Nat.reduceEqDiff, Nat.reduceAdd, Nat.reduceMul, Nat.reduceSub, Nat.reduceLeDiff, Nat.reduceLT, Nat.reduceBEq, Nat.reduceBNe, reduceCtorEq, Int.reduceBEq, Int.reduceBNe, Int.reduceLT, Int.reduceLE, Int.reduceEq, Int.reduceToNat, Int.reduceAdd, Int.reduceSub, Int.reduceNeg]⟩
  · have he : i = s.length := by omega
    subst he
    rw [sx] at A0
    rw [List.take_length] at A4
    simp +contextual only [vq, vc, ve, vv, vn, vl, ↓reduceIte, Nat.reduceEqDiff, Nat.reduceAdd, Nat.reduceMul, Nat.reduceSub, Nat.reduceLeDiff, Nat.reduceLT, Nat.reduceBEq, Nat.reduceBNe, reduceCtorEq, Int.reduceBEq, Int.reduceBNe, Int.reduceLT, Int.reduceLE, Int.reduceEq, Int.reduceToNat, Int.reduceAdd, Int.reduceSub, Int.reduceNeg, A0, A5, A4]
    refine loop2 (fun n st => ∃ i A p q, st = ⟨A, M, [], none⟩ ∧ i = n ∧ i ≤ s.length ∧ A 4 = .int .u32 (poly s % 4294967296) ∧ A 6 = .int .u32 p ∧ A 7 = .int .u32 q ∧ A 8 = .int .i64 (i : Nat) ∧ p % 4294967296 = p ∧ (p * q ^ i) % 4294967296 = 16777619 ^ s.length % 4294967296) s.length ⟨s.length, _, 1, 16777619, rfl, rfl, by omega, by simp +contextual only [vq, vc, ve, vv, vn, vl, ↓reduceIte, Nat.reduceEqDiff, Nat.reduceAdd, Nat.reduceMul, Nat.reduceSub, Nat.reduceLeDiff, Nat.reduceLT, Nat.reduceBEq, Nat.reduceBNe, reduceCtorEq, Int.reduceBEq, Int.reduceBNe, Int.reduceLT, Int.reduceLE, Int.reduceEq, Int.reduceToNat, Int.reduceAdd, Int.reduceSub, Int.reduceNeg, A4], by simp +contextual only [vq, vc, ve, vv, vn, vl, ↓reduceIte, Nat.reduceEqDiff, Nat.reduceAdd, Nat.reduceMul, Nat.reduceSub, Nat.reduceLeDiff, Nat.reduceLT, Nat.reduceBEq, Nat.reduceBNe, reduceCtorEq, Int.reduceBEq, Int.reduceBNe, Int.reduceLT, Int.reduceLE, Int.reduceEq, Int.reduceToNat, Int.reduceAdd, Int.reduceSub, Int.reduceNeg], by simp +contextual only [vq, vc, ve, vv, vn, vl, ↓reduceIte, Nat.reduceEqDiff, Nat.reduceAdd, Nat.reduceMul, Nat.reduceSub, Nat.reduceLeDiff, Nat.reduceLT, Nat.reduceBEq, Nat.reduceBNe, reduceCtorEq, Int.reduceBEq, Int.reduceBNe, Int.reduceLT, Int.reduceLE, Int.reduceEq, Int.reduceToNat, Int.reduceAdd, Int.reduceSub, Int.reduceNeg], by simp +contextual only [vq, vc, ve, vv, vn, vl, ↓reduceIte, Nat.reduceEqDiff, Nat.reduceAdd, Nat.reduceMul, Nat.reduceSub, Nat.reduceLeDiff, Nat.reduceLT, Nat.reduceBEq, Nat.reduceBNe, reduceCtorEq, Int.reduceBEq, Int.reduceBNe, Int.reduceLT, Int.reduceLE, Int.reduceEq, Int.reduceToNat, Int.reduceAdd, Int.reduceSub, Int.reduceNeg], by decide, by simp⟩ fun J2 hJ2 n2 st2 hI2 => ?_
    obtain ⟨i, A, p, q, rfl, rfl, hi, A4, A6, A7, A8, hp, hpq⟩ := hI2
    by_cases hz : 0 < i
    · have hb : bitsE .and .i64 (i : Int) 1 = ((i % 2 : Nat) : Int) := by
        unfold bitsE
        simp only [BitVec.toNat_and]
        have h1 : (BitVec.ofInt IntKind.i64.bits (i : Int)).toNat = i := by
          simp [IntKind.bits, BitVec.toNat_ofInt]
          omega
        have h2 : (BitVec.ofInt IntKind.i64.bits 1).toNat = 1 := by decide
        rw [h1, h2, Nat.and_one_is_mod]
        exact wrap_of rfl (by omega)
      have hs : shiftE .shr .i64 (i : Int) 1 = some (.int .i64 ((i / 2 : Nat) : Int)) := by
        simp only [shiftE]
        rw [if_neg (by decide)]
        have : (2 : Int) ^ (min (Int.toNat 1) IntKind.i64.bits) = 2 := by decide
        rw [this]
        congr 2
        rw [Int.fdiv_eq_ediv_of_nonneg _ (by decide)]
        rfl
      have hw1 : IntKind.u32.wrap (p * q) = p * q % 4294967296 := wrap32 _
      have hw2 : IntKind.u32.wrap (q * q) = q * q % 4294967296 := wrap32 _
      rcases Nat.mod_two_eq_zero_or_one i with h2 | h2
      · simp +contextual only [vq, vc, ve, vv, vn, vl, ↓reduceIte, Nat.reduceEqDiff, Nat.reduceAdd, Nat.reduceMul, Nat.reduceSub, Nat.reduceLeDiff, Nat.reduceLT, Nat.reduceBEq, Nat.reduceBNe, reduceCtorEq, Int.reduceBEq, Int.reduceBNe, Int.reduceLT, Int.reduceLE, Int.reduceEq, Int.reduceToNat, Int.reduceAdd, Int.reduceSub, Int.reduceNeg, A6, A7, A8, hz, hb, h2, hs, hw2]
        exact again2 hJ2 (i / 2) (by omega) ⟨i / 2, _, p, q * q % 4294967296, rfl, rfl, by omega, by simp +contextual only [vq, vc, ve, vv, vn, vl, ↓reduceIte, Nat.reduceEqDiff, Nat.reduceAdd, Nat.reduceMul, Nat.reduceSub, Nat.reduceLeDiff, Nat.reduceLT, Nat.reduceBEq, Nat.reduceBNe, reduceCtorEq, Int.reduceBEq, Int.reduceBNe, Int.reduceLT, Int.reduceLE, Int.reduceEq, Int.reduceToNat, Int.reduceAdd, Int.reduceSub, Int.reduceNeg, A4], by simp +contextual only [vq, vc, ve, vv, vn, vl, ↓reduceIte, Nat.reduceEqDiff, Nat.reduceAdd, Nat.reduceMul, Nat.reduceSub, Nat.reduceLeDiff, Nat.reduceLT, Nat.reduceBEq, Nat.reduceBNe, reduceCtorEq, Int.reduceBEq, Int.reduceBNe, Int.reduceLT, Int.reduceLE, Int.reduceEq, Int.reduceToNat, Int.reduceAdd, Int.reduceSub, Int.reduceNeg, A6], by simp +contextual only [vq, vc, ve, vv, vn, vl, ↓reduceIte, Nat.reduceEqDiff, Nat.reduceAdd, Nat.reduceMul, Nat.reduceSub, Nat.reduceLeDiff, Nat.reduceLT, Nat.reduceBEq, Nat.reduceBNe, reduceCtorEq, Int.reduceBEq, Int.reduceBNe, Int.reduceLT, Int.reduceLE, Int.reduceEq, Int.reduceToNat, Int.reduceAdd, Int.reduceSub, Int.reduceNeg], by simp +contextual only [vq, vc, ve, vv, vn, vl, ↓reduceIte, Nat.reduceEqDiff, Nat.reduceAdd, Nat.reduceMul, Nat.reduceSub, Nat.reduceLeDiff, Nat.reduceLT, Nat.reduceBEq, Nat.reduceBNe, reduceCtorEq, Int.reduceBEq, Int.reduceBNe, Int.reduceLT, Int.reduceLE, Int.reduceEq, Int.reduceToNat, Int.reduceAdd, Int.reduceSub, Int.reduceNeg], hp, pw_even p q i _ hpq h2⟩
      · simp +contextual only [vq, vc, ve, vv, vn, vl, ↓reduceIte, Nat.reduceEqDiff, Nat.reduceAdd, Nat.reduceMul, Nat.reduceSub, Nat.reduceLeDiff, Nat.reduceLT, Nat.reduceBEq, Nat.reduceBNe, reduceCtorEq, Int.reduceBEq, Int.reduceBNe, Int.reduceLT, Int.reduceLE, Int.reduceEq, Int.reduceToNat, Int.reduceAdd, Int.reduceSub, Int.reduceNeg, A6, A7, A8, hz, hb, h2, hs, hw1, hw2]
        exact again2 hJ2 (i / 2) (by omega) ⟨i / 2, _, p * q % 4294967296, q * q % 4294967296, rfl, rfl, by omega, by simp +contextual only [vq, vc, ve, vv, vn, vl, ↓reduceIte, Nat.reduceEqDiff, Nat.reduceAdd, Nat.reduceMul, Nat.reduceSub, Nat.reduceLeDiff, Nat.reduceLT, Nat.reduceBEq, Nat.reduceBNe, reduceCtorEq, Int.reduceBEq, Int.reduceBNe, Int.reduceLT, Int.reduceLE, Int.reduceEq, Int.reduceToNat, Int.reduceAdd, Int.reduceSub, Int.reduceNeg, A4], by simp +contextual only [vq, vc, ve, vv, vn, vl, ↓reduceIte, Nat.reduceEqDiff, Nat.reduceAdd, Nat.reduceMul, Nat.reduceSub, Nat.reduceLeDiff, Nat.reduceLT, Nat.reduceBEq, Nat.reduceBNe, reduceCtorEq, Int.reduceBEq, Int.reduceBNe, Int.reduceLT, Int.reduceLE, Int.reduceEq, Int.reduceToNat, Int.reduceAdd, Int.reduceSub, Int.reduceNeg], by simp +contextual only [vq, vc, ve, vv, vn, vl, ↓reduceIte, Nat.reduceEqDiff, Nat.reduceAdd, Nat.reduceMul, Nat.reduceSub, Nat.reduceLeDiff, Nat.reduceLT, Nat.reduceBEq, Nat.reduceBNe, reduceCtorEq, Int.reduceBEq, Int.reduceBNe, Int.reduceLT, Int.reduceLE, Int.reduceEq, Int.reduceToNat, Int.reduceAdd, Int.reduceSub, Int.reduceNeg], by simp +contextual only [vq, vc, ve, vv, vn, vl, ↓reduceIte, Nat.reduceEqDiff, Nat.reduceAdd, Nat.reduceMul, Nat.reduceSub, Nat.reduceLeDiff, Nat.reduceLT, Nat.reduceBEq, Nat.reduceBNe, reduceCtorEq, Int.reduceBEq, Int.reduceBNe, Int.reduceLT, Int.reduceLE, Int.reduceEq, Int.reduceToNat, Int.reduceAdd, Int.reduceSub, Int.reduceNeg], Int.emod_emod_of_dvd _ (Int.dvd_refl _), pw_odd p q i _ hpq h2⟩
    · have h0 : i = 0 := by omega
      subst h0
      rw [Int.pow_zero, Int.mul_one, hp] at hpq
      subst hpq
      have z0 : ((0 : Int) < ((0 : Nat) : Int)) = False := eq_false (by omega)
      simp +contextual only [vq, vc, ve, vv, vn, vl, ↓reduceIte, Nat.reduceEqDiff, Nat.reduceAdd, Nat.reduceMul, Nat.reduceSub, Nat.reduceLeDiff, Nat.reduceLT, Nat.reduceBEq, Nat.reduceBNe, reduceCtorEq, Int.reduceBEq, Int.reduceBNe, Int.reduceLT, Int.reduceLE, Int.reduceEq, Int.reduceToNat, Int.reduceAdd, Int.reduceSub, Int.reduceNeg, A4, A6, A8, z0, hl0]
end Go.Proofs.YtjlpfijbnflknaaDoor.bounceParts

namespace Go.Proofs.YtjlpfijbnflknaaDoor.bounceParts
open Go.Ev hiding Comes
variable [GG]

/-- The hash of the next window. -/
theorem roll32 {w : List UInt8} {b c : UInt8} {n : Nat} (hn : w.length + 1 = n) :
    IntKind.u32.wrap (IntKind.u32.wrap (IntKind.u32.wrap (poly (b :: w) % 4294967296 * 16777619) + IntKind.u32.wrap (c.toNat : Int)) - IntKind.u32.wrap (16777619 ^ n % 4294967296 * IntKind.u32.wrap (b.toNat : Int))) = poly (w ++ [c]) % 4294967296 := by
  rw [step32]
  simp only [wrap32]
  subst hn
  rw [← Int.mul_emod, ← Int.sub_emod, poly_snoc, poly_cons]
  congr 1
  rw [Int.pow_succ]
  simp only [Int.add_mul]
  have e : (b.toNat : Int) * 16777619 ^ w.length * 16777619 = 16777619 ^ w.length * 16777619 * (b.toNat : Int) := by
    rw [Int.mul_assoc, Int.mul_comm]
  omega
theorem win_head {s : List UInt8} {i n : Nat} (h : i + n < s.length) (hn : 0 < n) : (s.drop i).take n = s[i] :: (s.drop (i + 1)).take (n - 1) ∧ (s.drop (i + 1)).take n = (s.drop (i + 1)).take (n - 1) ++ [s[i + n]] := by
  obtain ⟨k, rfl⟩ : ∃ k, n = k + 1 := ⟨n - 1, by omega⟩
  constructor
  · rw [List.drop_eq_getElem_cons (show i < s.length by omega), List.take_succ_cons]
    rfl
  · have hk : k < (s.drop (i + 1)).length := by rw [List.length_drop]; omega
    rw [List.take_succ_eq_append_getElem hk]
    congr 2
    rw [List.getElem_drop]
    congr 1
    omega
theorem c_bytealg_IndexRabinKarp_bytes (m : Mem) (x y : EV) (s t : List UInt8) (hx : BytesAt G m x s) (hy : BytesAt G m y t) (h2 : 2 ≤ t.length) (hts : t.length ≤ s.length) (hN : s.length ≤ 1000000000000) :
    Go.Ev.Comes T G f_bytealg_IndexRabinKarp_bytes [x, y] m none ⟨.val (.int .i64 (Go.Lib.index s t)), m, none⟩ := by
  refine comes2 T_bytealg_IndexRabinKarp_bytes rfl fun M hg hlen hlow => ?_
  have hl0 : m.bl.length ≤ M.low := by omega
  have hx := hx.grown hg
  have hy := hy.grown hg
  have hs0 : s ≠ [] := by rintro rfl; simp at hts; simp [hts] at h2
  have ht0 : t ≠ [] := by rintro rfl; simp at h2
  obtain ⟨a, cap, rfl, hc, ho, hgN, hat⟩ := hx.pos hs0
  obtain ⟨b, capb, rfl, hcb, hob, hgb, hbt⟩ := hy.pos ht0
  simp only [F_bytealg_IndexRabinKarp_bytes]
  simp +contextual only [vq, vc, ve, vv, vn, vl, ↓reduceIte, Nat.reduceEqDiff, Nat.reduceAdd, Nat.reduceMul, Nat.reduceSub, Nat.reduceLeDiff, Nat.reduceLT, Nat.reduceBEq, Nat.reduceBNe, reduceCtorEq, Int.reduceBEq, Int.reduceBNe, Int.reduceLT, Int.reduceLE, Int.reduceEq, Int.reduceToNat, Int.reduceAdd, Int.reduceSub, Int.reduceNeg, callR_val (c_bytealg_hashStr_bytes _ _ _ hy (by omega))]
  refine loop2 (fun n st => ∃ i A, st = ⟨A, M, [], none⟩ ∧ n = t.length - i ∧ i ≤ t.length ∧ A 0 = .slice (some a) s.length cap 1 ∧ A 1 = .slice (some b) t.length capb 1 ∧ A 5 = .int .u32 (poly t % 4294967296) ∧ A 6 = .int .u32 (16777619 ^ t.length % 4294967296) ∧ A 7 = .int .i64 t.length ∧ A 8 = .int .u32 (poly (s.take i) % 4294967296) ∧ A 9 = .int .i64 (i : Nat)) t.length ⟨0, _, rfl, by omega, by omega, by simp +contextual only [vq, vc, ve, vv, vn, vl, ↓reduceIte, Nat.reduceEqDiff, Nat.reduceAdd, Nat.reduceMul, Nat.reduceSub, Nat.reduceLeDiff, Nat.reduceLT, Nat.reduceBEq, Nat.reduceBNe, reduceCtorEq, Int.reduceBEq, Int.reduceBNe, Int.reduceLT, Int.reduceLE, Int.reduceEq, Int.reduceToNat, Int.reduceAdd, Int.reduceSub, Int.reduceNeg], by simp +contextual only [vq, vc, ve, vv, vn, vl, ↓reduceIte, Nat.reduceEqDiff, Nat.reduceAdd, Nat.reduceMul, Nat.reduceSub, Nat.reduceLeDiff, Nat.reduceLT, Nat.reduceBEq, Nat.reduceBNe, reduceCtorEq, Int.reduceBEq, Int.reduceBNe, Int.reduceLT, Int.reduceLE, Int.reduceEq, Int.reduceToNat, Int.reduceAdd, Int.reduceSub, Int.reduceNeg], by simp +contextual only [vq, vc, ve, vv, vn, vl, ↓reduceIte, Nat.reduceEqDiff, Nat.reduceAdd, Nat.reduceMul, Nat.reduceSub, Nat.reduceLeDiff, Nat.reduceLT, Nat.reduceBEq, Nat.reduceBNe, reduceCtorEq, Int.reduceBEq, Int.reduceBNe, Int.reduceLT, Int.reduceLE, Int.reduceEq, Int.reduceToNat, Int.reduceAdd, Int.reduceSub, Int.reduceNeg], by simp +contextual only [vq, vc, ve, vv, vn, vl, ↓reduceIte, Nat.reduceEqDiff, Nat.reduceAdd, Nat.reduceMul, Nat.reduceSub, Nat.reduceLeDiff, Nat.reduceLT, Nat.reduceBEq, Nat.reduceBNe, reduceCtorEq, Int.reduceBEq, Int.reduceBNe, Int.reduceLT, Int.reduceLE, Int.reduceEq, Int.reduceToNat, Int.reduceAdd, Int.reduceSub, Int.reduceNeg], by simp +contextual only [vq, vc, ve, vv, vn, vl, ↓reduceIte, Nat.reduceEqDiff, Nat.reduceAdd, Nat.reduceMul, Nat.reduceSub, Nat.reduceLeDiff, Nat.reduceLT, Nat.reduceBEq, Nat.reduceBNe, reduceCtorEq, Int.reduceBEq, Int.reduceBNe, Int.reduceLT, Int.reduceLE, Int.reduceEq, Int.reduceToNat, Int.reduceAdd, Int.reduceSub, Int.reduceNeg], by simp +contextual only [vq, vc, ve, vv, vn, vl, ↓reduceIte, Nat.reduceEqDiff, Nat.reduceAdd, Nat.reduceMul, Nat.reduceSub, Nat.reduceLeDiff, Nat.reduceLT, Nat.reduceBEq, Nat.reduceBNe, reduceCtorEq, Int.reduceBEq, Int.reduceBNe, Int.reduceLT, Int.reduceLE, Int.reduceEq, Int.reduceToNat, Int.reduceAdd, Int.reduceSub, Int.reduceNeg]; rfl, by simp +contextual only [vq, vc, ve, vv, vn, vl, ↓reduceIte, Nat.reduceEqDiff, Nat.reduceAdd, Nat.reduceMul, Nat.reduceSub, Nat.reduceLeDiff, Nat.reduceLT, Nat.reduceBEq, Nat.reduceBNe, reduceCtorEq, Int.reduceBEq, Int.reduceBNe, Int.reduceLT, Int.reduceLE, Int.reduceEq, Int.reduceToNat, Int.reduceAdd, Int.reduceSub, Int.reduceNeg]; rfl⟩ fun J hJ n st hI => ?_
  obtain ⟨i, A, rfl, rfl, hi, A0, A1, A5, A6, A7, A8, A9⟩ := hI
  by_cases hlt : i < t.length
  · have hls : i < s.length := by omega
    simp +contextual only [vq, vc, ve, vv, vn, vl, ↓reduceIte, Nat.reduceEqDiff, Nat.reduceAdd, Nat.reduceMul, Nat.reduceSub, Nat.reduceLeDiff, Nat.reduceLT, Nat.reduceBEq, Nat.reduceBNe, reduceCtorEq, Int.reduceBEq, Int.reduceBNe, Int.reduceLT, Int.reduceLE, Int.reduceEq, Int.reduceToNat, Int.reduceAdd, Int.reduceSub, Int.reduceNeg, A0, A7, A8, A9, hlt, hls, hat i hls, step32, wsucc hlt (by omega)]
    exact again2 hJ (t.length - (i + 1)) (by omega) ⟨i + 1, _, rfl, rfl, by omega, by simp +contextual only [vq, vc, ve, vv, vn, vl, ↓reduceIte, Nat.reduceEqDiff, Nat.reduceAdd, Nat.reduceMul, Nat.reduceSub, Nat.reduceLeDiff, Nat.reduceLT, Nat.reduceBEq, Nat.reduceBNe, reduceCtorEq, Int.reduceBEq, Int.reduceBNe, Int.reduceLT, Int.reduceLE, Int.reduceEq, Int.reduceToNat, Int.reduceAdd, Int.reduceSub, Int.reduceNeg, A0], by simp +contextual only [vq, vc, ve, vv, vn, vl, ↓reduceIte, Nat.reduceEqDiff, Nat.reduceAdd, Nat.reduceMul, Nat.reduceSub, Nat.reduceLeDiff, Nat.reduceLT, Nat.reduceBEq, Nat.reduceBNe, reduceCtorEq, Int.reduceBEq, Int.reduceBNe, Int.reduceLT, Int.reduceLE, Int.reduceEq, Int.reduceToNat, Int.reduceAdd, Int.reduceSub, Int.reduceNeg, A1], by simp +contextual only [vq, vc, ve, vv, vn, vl, ↓reduceIte, Nat.reduceEqDiff, Nat.reduceAdd, Nat.reduceMul, Nat.reduceSub, Nat.reduceLeDiff, Nat.reduceLT, Nat.reduceBEq, Nat.reduceBNe, reduceCtorEq, Int.reduceBEq, Int.reduceBNe, Int.reduceLT, Int.reduceLE, Int.reduceEq, Int.reduceToNat, Int.reduceAdd, Int.reduceSub, Int.reduceNeg, A5], by simp +contextual only [vq, vc, ve, vv, vn, vl, ↓reduceIte, Nat.reduceEqDiff, Nat.reduceAdd, Nat.reduceMul, Nat.reduceSub, Nat.reduceLeDiff, Nat.reduceLT, Nat.reduceBEq, Nat.reduceBNe, reduceCtorEq, Int.reduceBEq, Int.reduceBNe, Int.reduceLT, Int.reduceLE, Int.reduceEq, Int.reduceToNat, Int.reduceAdd, Int.reduceSub, Int.reduceNeg, A6], by simp +contextual only [vq, vc, ve, vv, vn, vl, ↓reduceIte, Nat.reduceEqDiff, Nat.reduceAdd, Nat.reduceMul, Nat.reduceSub, Nat.reduceLeDiff, Nat.reduceLT, Nat.reduceBEq, Nat.reduceBNe, reduceCtorEq, Int.reduceBEq, Int.reduceBNe, Int.reduceLT, Int.reduceLE, Int.reduceEq, Int.reduceToNat, Int.reduceAdd, Int.reduceSub, Int.reduceNeg, A7], by simp +contextual only [vq, vc, ve, vv, vn, vl, ↓reduceIte, Nat.reduceEqDiff, Nat.reduceAdd, Nat.reduceMul, Nat.reduceSub, Nat.reduceLeDiff, Nat.reduceLT, Nat.reduceBEq, Nat.reduceBNe, reduceCtorEq, Int.reduceBEq, Int.reduceBNe, Int.reduceLT, Int.reduceLE, Int.reduceEq, Int.reduceToNat, Int.reduceAdd, Int.reduceSub, Int.reduceNeg, poly_take hls], by simp +contextual only [vq, vc, ve, vv, vn, vl, ↓reduceIte, Nat.reduceEqDiff, Nat.reduceAdd, Nat.reduceMul, Nat.reduceSub, Nat.reduceLeDiff, Nat.reduceLT, Nat.reduceBEq, Nat.reduceBNe, reduceCtorEq, Int.reduceBEq, Int.reduceBNe, Int.reduceLT, Int.reduceLE, Int.reduceEq, Int.reduceToNat, Int.reduceAdd, Int.reduceSub, Int.reduceNeg]⟩
  have he : i = t.length := by omega
  subst he
  have win : ∀ i, i + t.length ≤ s.length → M.getN G (a.plus i) t.length = some (bytesE ((s.drop i).take t.length)) := fun i hi => by
    have := bytes_part hc ho hgN (show i ≤ i + t.length by omega) hi
    rw [show i + t.length - i = t.length by omega] at this
    obtain ⟨_, _, he, _, _, hg, _⟩ := this.pos (by intro e; have := congrArg List.length e; simp only [List.length_take, List.length_drop, List.length_nil] at this; omega)
    have hl : ((s.drop i).take t.length).length = t.length := by simp; omega
    rw [hl] at he hg
    cases he
    exact hg
  have w0 := win 0 (by omega)
  rw [Ad.plus_zero, List.drop_zero] at w0
  have k1 : t.length ≤ cap := by omega
  have hcmp : ∀ w : List UInt8, (poly w % 4294967296 == poly t % 4294967296 && w == t) = (w == t) := fun w => by
    cases hw : w == t with
    | false => simp
    | true =>
      have : w = t := by simpa using hw
      simp [this]
  simp +contextual only [vq, vc, ve, vv, vn, vl, ↓reduceIte, Nat.reduceEqDiff, Nat.reduceAdd, Nat.reduceMul, Nat.reduceSub, Nat.reduceLeDiff, Nat.reduceLT, Nat.reduceBEq, Nat.reduceBNe, reduceCtorEq, Int.reduceBEq, Int.reduceBNe, Int.reduceLT, Int.reduceLE, Int.reduceEq, Int.reduceToNat, Int.reduceAdd, Int.reduceSub, Int.reduceNeg, A0, A1, A5, A7, A8, A9, ho, hob, k1, w0, hgb, hcmp]
  refine br2_mk (fun hk => ?_) (fun hk => ?_)
  · have hk : s.take t.length = t := by simpa using hk
    have e : Go.Lib.index s t = 0 := index_at (i := 0) (by omega) (by simpa using hk) (fun j hj => by omega)
    simp +contextual only [vq, vc, ve, vv, vn, vl, ↓reduceIte, Nat.reduceEqDiff, Nat.reduceAdd, Nat.reduceMul, Nat.reduceSub, Nat.reduceLeDiff, Nat.reduceLT, Nat.reduceBEq, Nat.reduceBNe, reduceCtorEq, Int.reduceBEq, Int.reduceBNe, Int.reduceLT, Int.reduceLE, Int.reduceEq, Int.reduceToNat, Int.reduceAdd, Int.reduceSub, Int.reduceNeg, e, hl0]
  have hk : s.take t.length ≠ t := by simpa using hk
  simp +contextual only [vq, vc, ve, vv, vn, vl, ↓reduceIte, Nat.reduceEqDiff, Nat.reduceAdd, Nat.reduceMul, Nat.reduceSub, Nat.reduceLeDiff, Nat.reduceLT, Nat.reduceBEq, Nat.reduceBNe, reduceCtorEq, Int.reduceBEq, Int.reduceBNe, Int.reduceLT, Int.reduceLE, Int.reduceEq, Int.reduceToNat, Int.reduceAdd, Int.reduceSub, Int.reduceNeg, A7]
  refine loop2 (fun n st => ∃ i A, st = ⟨A, M, [], none⟩ ∧ n = s.length - (i + t.length) ∧ i + t.length ≤ s.length ∧ A 0 = .slice (some a) s.length cap 1 ∧ A 1 = .slice (some b) t.length capb 1 ∧ A 5 = .int .u32 (poly t % 4294967296) ∧ A 6 = .int .u32 (16777619 ^ t.length % 4294967296) ∧ A 7 = .int .i64 t.length ∧ A 8 = .int .u32 (poly ((s.drop i).take t.length) % 4294967296) ∧ A 10 = .int .i64 ((i + t.length : Nat) : Int) ∧ ∀ j, j ≤ i → (s.drop j).take t.length ≠ t) (s.length - t.length) ⟨0, _, rfl, by omega, by omega, by simp +contextual only [vq, vc, ve, vv, vn, vl, ↓reduceIte, Nat.reduceEqDiff, Nat.reduceAdd, Nat.reduceMul, Nat.reduceSub, Nat.reduceLeDiff, Nat.reduceLT, Nat.reduceBEq, Nat.reduceBNe, reduceCtorEq, Int.reduceBEq, Int.reduceBNe, Int.reduceLT, Int.reduceLE, Int.reduceEq, Int.reduceToNat, Int.reduceAdd, Int.reduceSub, Int.reduceNeg, A0], by simp +contextual only [vq, vc, ve, vv, vn, vl, ↓reduceIte, Nat.reduceEqDiff, Nat.reduceAdd, Nat.reduceMul, Nat.reduceSub, Nat.reduceLeDiff, Nat.reduceLT, Nat.reduceBEq, Nat.reduceBNe, reduceCtorEq, Int.reduceBEq, Int.reduceBNe, Int.reduceLT, Int.reduceLE, Int.reduceEq, Int.reduceToNat, Int.reduceAdd, Int.reduceSub, Int.reduceNeg, A1], by simp +contextual only [vq, vc, ve, vv, vn, vl, ↓reduceIte, Nat.reduceEqDiff, Nat.reduceAdd, Nat.reduceMul, Nat.reduceSub, Nat.reduceLeDiff, Nat.reduceLT, Nat.reduceBEq, Nat.reduceBNe, reduceCtorEq, Int.reduceBEq, Int.reduceBNe, Int.reduceLT, Int.reduceLE, Int.reduceEq, Int.reduceToNat, Int.reduceAdd, Int.reduceSub, Int.reduceNeg, A5], by simp +contextual only [vq, vc, ve, vv, vn, vl, ↓reduceIte, Nat.reduceEqDiff, Nat.reduceAdd, Nat.reduceMul, Nat.reduceSub, Nat.reduceLeDiff, Nat.reduceLT, Nat.reduceBEq, Nat.reduceBNe, reduceCtorEq, Int.reduceBEq, Int.reduceBNe, Int.reduceLT, Int.reduceLE, Int.reduceEq, Int.reduceToNat, Int.reduceAdd, Int.reduceSub, Int.reduceNeg, A6], by simp +contextual only [vq, vc, ve, vv, vn, vl, ↓reduceIte, Nat.reduceEqDiff, Nat.reduceAdd, Nat.reduceMul, Nat.reduceSub, Nat.reduceLeDiff, Nat.reduceLT, Nat.reduceBEq, Nat.reduceBNe, reduceCtorEq, Int.reduceBEq, Int.reduceBNe, Int.reduceLT, Int.reduceLE, Int.reduceEq, Int.reduceToNat, Int.reduceAdd, Int.reduceSub, Int.reduceNeg, A7], by simp +contextual only [vq, vc, ve, vv, vn, vl, ↓reduceIte, Nat.reduceEqDiff, Nat.reduceAdd, Nat.reduceMul, Nat.reduceSub, Nat.reduceLeDiff, Nat.reduceLT, Nat.reduceBEq, Nat.reduceBNe, reduceCtorEq, Int.reduceBEq, Int.reduceBNe, Int.reduceLT, Int.reduceLE, Int.reduceEq, Int.reduceToNat, Int.reduceAdd, Int.reduceSub, Int.reduceNeg, A8], by simp +contextual only [vq, vc, ve, vv, vn, vl, ↓reduceIte, Nat.reduceEqDiff, Nat.reduceAdd, Nat.reduceMul, Nat.reduceSub, Nat.reduceLeDiff, Nat.reduceLT, Nat.reduceBEq, Nat.reduceBNe, reduceCtorEq, Int.reduceBEq, Int.reduceBNe, Int.reduceLT, Int.reduceLE, Int.reduceEq, Int.reduceToNat, Int.reduceAdd, Int.reduceSub, Int.reduceNeg], fun j hj => by have hj0 : j = 0 := (by omega); subst hj0; simpa using hk⟩ fun J2 hJ2 n2 st2 hI2 => ?_
  obtain ⟨i, A, rfl, rfl, hi, A0, A1, A5, A6, A7, A8, A10, hno⟩ := hI2
  by_cases hls : i + t.length < s.length
  · obtain ⟨w1, w2⟩ := win_head hls (by omega)
    have hr := roll32 (w := (s.drop (i + 1)).take (t.length - 1)) (b := s[i]) (c := s[i + t.length]) (n := t.length) (by simp; omega)
    rw [← w1, ← w2] at hr
    have hw : IntKind.i64.wrap (((i + t.length : Nat) : Int) + 1) = ((i + 1 + t.length : Nat) : Int) := wrap_of (by omega) (by omega)
    have hw2 : IntKind.i64.wrap (((i + t.length : Nat) : Int) - (t.length : Int)) = (i : Int) := wrap_of (by omega) (by omega)
    have hw3 : IntKind.i64.wrap (((i + 1 + t.length : Nat) : Int) - (t.length : Int)) = ((i + 1 : Nat) : Int) := wrap_of (by omega) (by omega)
    have his : i < s.length := by omega
    have k2 : i + 1 ≤ i + 1 + t.length := by omega
    have k3 : i + 1 + t.length ≤ cap := by omega
    have k4 : i + 1 + t.length - (i + 1) = t.length := by omega
    simp +contextual only [vq, vc, ve, vv, vn, vl, ↓reduceIte, Nat.reduceEqDiff, Nat.reduceAdd, Nat.reduceMul, Nat.reduceSub, Nat.reduceLeDiff, Nat.reduceLT, Nat.reduceBEq, Nat.reduceBNe, reduceCtorEq, Int.reduceBEq, Int.reduceBNe, Int.reduceLT, Int.reduceLE, Int.reduceEq, Int.reduceToNat, Int.reduceAdd, Int.reduceSub, Int.reduceNeg, A0, A1, A5, A6, A7, A8, A10, hls, his, hat _ hls, hat _ his, hr, hw, hw2, hw3, ho, hob, k2, k3, k4, win (i + 1) (by omega), hgb, hcmp]
    refine br2_mk (fun hq => ?_) (fun hq => ?_)
    · have hq : (s.drop (i + 1)).take t.length = t := by simpa using hq
      have e : Go.Lib.index s t = ((i + 1 : Nat) : Int) := index_at (by omega) hq (fun j hj => hno j (by omega))
      simp +contextual only [vq, vc, ve, vv, vn, vl, ↓reduceIte, Nat.reduceEqDiff, Nat.reduceAdd, Nat.reduceMul, Nat.reduceSub, Nat.reduceLeDiff, Nat.reduceLT, Nat.reduceBEq, Nat.reduceBNe, reduceCtorEq, Int.reduceBEq, Int.reduceBNe, Int.reduceLT, Int.reduceLE, Int.reduceEq, Int.reduceToNat, Int.reduceAdd, Int.reduceSub, Int.reduceNeg, A7, hw3, e, hl0]
    · have hq : (s.drop (i + 1)).take t.length ≠ t := by simpa using hq
      simp +contextual only [vq, vc, ve, vv, vn, vl, ↓reduceIte, Nat.reduceEqDiff, Nat.reduceAdd, Nat.reduceMul, Nat.reduceSub, Nat.reduceLeDiff, Nat.reduceLT, Nat.reduceBEq, Nat.reduceBNe, reduceCtorEq, Int.reduceBEq, Int.reduceBNe, Int.reduceLT, Int.reduceLE, Int.reduceEq, Int.reduceToNat, Int.reduceAdd, Int.reduceSub, Int.reduceNeg]
      exact again2 hJ2 (s.length - (i + 1 + t.length)) (by omega) ⟨i + 1, _, rfl, rfl, by omega, by simp +contextual only [vq, vc, ve, vv, vn, vl, ↓reduceIte, Nat.reduceEqDiff, Nat.reduceAdd, Nat.reduceMul, Nat.reduceSub, Nat.reduceLeDiff, Nat.reduceLT, Nat.reduceBEq, Nat.reduceBNe, reduceCtorEq, Int.reduceBEq, Int.reduceBNe, Int.reduceLT, Int.reduceLE, Int.reduceEq, Int.reduceToNat, Int.reduceAdd, Int.reduceSub, Int.reduceNeg, A0], by simp +contextual only [vq, vc, ve, vv, vn, vl, ↓reduceIte, Nat.reduceEqDiff, Nat.reduceAdd, Nat.reduceMul, Nat.reduceSub, Nat.reduceLeDiff, Nat.reduceLT, Nat.reduceBEq, Nat.reduceBNe, reduceCtorEq, Int.reduceBEq, Int.reduceBNe, Int.reduceLT, Int.reduceLE, Int.reduceEq, Int.reduceToNat, Int.reduceAdd, Int.reduceSub, Int.reduceNeg, A1], by simp +contextual only [vq, vc, ve, vv, vn, vl, ↓reduceIte, Nat.reduceEqDiff, Nat.reduceAdd, Nat.reduceMul, Nat.reduceSub, Nat.reduceLeDiff, Nat.reduceLT, Nat.reduceBEq, Nat.reduceBNe, reduceCtorEq, Int.reduceBEq, Int.reduceBNe, Int.reduceLT, Int.reduceLE, Int.reduceEq, Int.reduceToNat, Int.reduceAdd, Int.reduceSub, Int.reduceNeg, A5], by simp +contextual only [vq, vc, ve, vv, vn, vl, ↓reduceIte, Nat.reduceEqDiff, Nat.reduceAdd, Nat.reduceMul, Nat.reduceSub, Nat.reduceLeDiff, Nat.reduceLT, Nat.reduceBEq, Nat.reduceBNe, reduceCtorEq, Int.reduceBEq, Int.reduceBNe, Int.reduceLT, Int.reduceLE, Int.reduceEq, Int.reduceToNat, Int.reduceAdd, Int.reduceSub, Int.reduceNeg, A6], by simp +contextual only [vq, vc, ve, vv, vn, vl, ↓reduceIte, Nat.reduceEqDiff, Nat.reduceAdd, Nat.reduceMul, Nat.reduceSub, Nat.reduceLeDiff, Nat.reduceLT, Nat.reduceBEq, Nat.reduceBNe, reduceCtorEq, Int.reduceBEq, Int.reduceBNe, Int.reduceLT, Int.reduceLE, Int.reduceEq, Int.reduceToNat, Int.reduceAdd, Int.reduceSub, Int.reduceNeg, A7], by simp +contextual only [vq, vc, ve, vv, vn, vl, ↓reduceIte, Nat.reduceEqDiff, Nat.reduceAdd, Nat.reduceMul, Nat.reduceSub, Nat.reduceLeDiff, Nat.reduceLT, Nat.reduceBEq, Nat.reduceBNe, reduceCtorEq, Int.reduceBEq, Int.reduceBNe, Int.reduceLT, Int.reduceLE, Int.reduceEq, Int.reduceToNat, Int.reduceAdd, Int.reduceSub, Int.reduceNeg], by simp +contextual only [vq, vc, ve, vv, vn, vl, ↓reduceIte, Nat.reduceEqDiff, Nat.reduceAdd, Nat.reduceMul, Nat.reduceSub, Nat.reduceLeDiff, Nat.reduceLT, Nat.reduceBEq, Nat.reduceBNe, reduceCtorEq, Int.reduceBEq, Int.reduceBNe, Int.reduceLT, Int.reduceLE, Int.reduceEq, Int.reduceToNat, Int.reduceAdd, Int.reduceSub, Int.reduceNeg], fun j hj => by
        by_cases hji : j = i + 1
        · rw [hji]; exact hq
        · exact hno j (by omega)⟩
  · have e : Go.Lib.index s t = -1 := index_no fun j hj => hno j (by omega)
    simp +contextual only [vq, vc, ve, vv, vn, vl, ↓reduceIte, Nat.reduceEqDiff, Nat.reduceAdd, Nat.reduceMul, Nat.reduceSub, Nat.reduceLeDiff, Nat.reduceLT, Nat.reduceBEq, Nat.reduceBNe, reduceCtorEq, Int.reduceBEq, Int.reduceBNe, Int.reduceLT, Int.reduceLE, Int.reduceEq, Int.reduceToNat, Int.reduceAdd, Int.reduceSub, Int.reduceNeg, A0, A10, hls, e, hl0]
end Go.Proofs.YtjlpfijbnflknaaDoor.bounceParts

namespace Go.Proofs.YtjlpfijbnflknaaDoor.bounceParts
open Go.Ev hiding Comes
variable [GG]

theorem c_bytes_Equal (m : Mem) (x y : EV) (s t : List UInt8) (hx : BytesAt G m x s) (hy : BytesAt G m y t) : Go.Ev.Comes T G f_bytes_Equal [x, y] m none ⟨.val (.bool (s == t)), m, none⟩ := by
  refine comes2 T_bytes_Equal rfl fun M hg hlen hlow => ?_
  have hl : m.bl.length ≤ M.low := by omega
  simp only [F_bytes_Equal]
  simp +contextual only [vq, vc, ve, vv, vn, vl, ↓reduceIte, Nat.reduceEqDiff, Nat.reduceAdd, Nat.reduceMul, Nat.reduceSub, Nat.reduceLeDiff, Nat.reduceLT, Nat.reduceBEq, Nat.reduceBNe, reduceCtorEq, Int.reduceBEq, Int.reduceBNe, Int.reduceLT, Int.reduceLE, Int.reduceEq, Int.reduceToNat, Int.reduceAdd, Int.reduceSub, Int.reduceNeg, (hx.grown hg).tos, (hy.grown hg).tos, hl]
end Go.Proofs.YtjlpfijbnflknaaDoor.bounceParts

namespace Go.Proofs.YtjlpfijbnflknaaDoor.bounceParts
open Go.Ev hiding Comes
variable [GG]

theorem c_bytealg_IndexByte (m : Mem) (x : EV) (s : List UInt8) (c : UInt8) (hx : BytesAt G m x s) : Go.Ev.Comes T G f_bytealg_IndexByte [x, .int .u8 c.toNat] m none ⟨.val (.int .i64 (findByte s c)), m, none⟩ :=
  ⟨1, by simp only [evFun, T_bytealg_IndexByte, F_bytealg_IndexByte, Option.isSome_none, Bool.false_eq_true, if_false, primE, ibyE, hx.srcS, Option.map_some, Int.toNat_natCast, UInt8.ofNat_toNat]⟩
theorem c_bytes_IndexByte (m : Mem) (x : EV) (s : List UInt8) (c : UInt8) (hx : BytesAt G m x s) : Go.Ev.Comes T G f_bytes_IndexByte [x, .int .u8 c.toNat] m none ⟨.val (.int .i64 (findByte s c)), m, none⟩ := by
  refine comes2 T_bytes_IndexByte rfl fun M hg hlen hlow => ?_
  have hl : m.bl.length ≤ M.low := by omega
  simp only [F_bytes_IndexByte]
  simp +contextual only [vq, vc, ve, vv, vn, vl, ↓reduceIte, Nat.reduceEqDiff, Nat.reduceAdd, Nat.reduceMul, Nat.reduceSub, Nat.reduceLeDiff, Nat.reduceLT, Nat.reduceBEq, Nat.reduceBNe, reduceCtorEq, Int.reduceBEq, Int.reduceBNe, Int.reduceLT, Int.reduceLE, Int.reduceEq, Int.reduceToNat, Int.reduceAdd, Int.reduceSub, Int.reduceNeg, callR_val (c_bytealg_IndexByte _ _ _ _ (hx.grown hg)), hl]
theorem findByte_neg {s : List UInt8} {c : UInt8} (h : findByte s c < 0) : ∀ b ∈ s, b ≠ c := by
  unfold findByte at h
  split at h
  · omega
  · rename_i hn
    intro b hb e
    have := List.findIdx?_eq_none_iff.1 hn b hb
    simp [e] at this
theorem findByte_pos {s : List UInt8} {c : UInt8} (h : ¬ findByte s c < 0) : ∃ k : Nat, findByte s c = k ∧ k < s.length ∧ s[k]? = some c ∧ ∀ j, j < k → s[j]? ≠ some c := by
  unfold findByte at h ⊢
  split at h
  · rename_i k hk
    obtain ⟨h1, h2, h3⟩ := List.findIdx?_eq_some_iff_getElem.1 hk
    refine ⟨k, rfl, h1, by rw [List.getElem?_eq_getElem h1]; simpa using h2, fun j hj e => ?_⟩
    have hjl : j < s.length := by omega
    rw [List.getElem?_eq_getElem hjl] at e
    have := h3 j hj
    simp at e this
    exact this e
  · omega
end Go.Proofs.YtjlpfijbnflknaaDoor.bounceParts

namespace Go.Proofs.YtjlpfijbnflknaaDoor.bounceParts
open Go.Ev hiding Comes
variable [GG]

theorem c_bytealg_Index (m : Mem) (x y : EV) (s t : List UInt8) (k : Int) (hk : G g_bytealg_MaxLen = some [.int .i64 k]) (hx : BytesAt G m x s) (hy : BytesAt G m y t) (h2 : 2 ≤ t.length) (hm : (t.length : Int) ≤ k) (hN : s.length < 4294967281) : Go.Ev.Comes T G f_bytealg_Index [x, y] m none ⟨.val (.int .i64 (Go.Lib.index s t)), m, none⟩ := by
  exact ⟨1, by simp only [evFun, T_bytealg_Index, F_bytealg_Index, Option.isSome_none, Bool.false_eq_true, if_false]; show (idxE g_bytealg_MaxLen G [x, y] m).map _ = _; simp only [idxE, hx.srcS, hy.srcS, hk, if_pos (And.intro h2 (And.intro hm hN)), Option.map_some]⟩
theorem c_bytealg_Cutover (m : Mem) (n : Nat) (hn : n ≤ 1000000000000) : Go.Ev.Comes T G f_bytealg_Cutover [.int .i64 n] m none ⟨.val (.int .i64 ((n + 16) / 8 : Nat)), m, none⟩ := by
  refine comes2 T_bytealg_Cutover rfl fun M hg hlen hlow => ?_
  have hl : m.bl.length ≤ M.low := by omega
  have h1 : IntKind.i64.wrap ((n : Int) + 16) = ((n + 16 : Nat) : Int) := wrap_of (by omega) (by omega)
  have h2 : ((n + 16 : Nat) : Int).tdiv 8 = ((n + 16) / 8 : Nat) := rfl
  have h3 : IntKind.i64.wrap (((n + 16) / 8 : Nat) : Int) = (((n + 16) / 8 : Nat) : Int) := wrap_of rfl (by omega)
  simp only [F_bytealg_Cutover]
  simp +contextual only [vq, vc, ve, vv, vn, vl, ↓reduceIte, Nat.reduceEqDiff, Nat.reduceAdd, Nat.reduceMul, Nat.reduceSub, Nat.reduceLeDiff, Nat.reduceLT, Nat.reduceBEq, Nat.reduceBNe, reduceCtorEq, Int.reduceBEq, Int.reduceBNe, Int.reduceLT, Int.reduceLE, Int.reduceEq, Int.reduceToNat, Int.reduceAdd, Int.reduceSub, Int.reduceNeg, h1, h2, h3, hl]

/-- Two places on, the first two bytes must be the part's own. -/
theorem win_two {s t : List UInt8} {i : Nat} (h2 : 2 ≤ t.length) (hi : i + t.length ≤ s.length) : ((s.drop i).take t.length == t) = ((s[i]'(by omega) == t[0]'(by omega)) && ((s[i + 1]'(by omega) == t[1]'(by omega)) && ((s.drop i).take t.length == t))) := by
  cases hw : (s.drop i).take t.length == t with
  | false => simp
  | true =>
    have hw : (s.drop i).take t.length = t := by simpa using hw
    have e (k : Nat) (hk : k < t.length) : s[i + k]'(by omega) = t[k] := by
      have h1 : ((s.drop i).take t.length)[k]? = t[k]? := by rw [hw]
      rw [List.getElem?_take, if_pos hk, List.getElem?_drop, List.getElem?_eq_getElem (by omega), List.getElem?_eq_getElem hk] at h1
      exact Option.some.inj h1
    have e0 := e 0 (by omega)
    have e1 := e 1 (by omega)
    simp only [Nat.add_zero] at e0
    simp [e0, e1]
theorem no_first {s t : List UInt8} {i k : Nat} (h2 : 2 ≤ t.length) (hk : ∀ j, i ≤ j → j < k → s[j]? ≠ some (t[0]'(by omega))) (hno : ∀ j, j < i → (s.drop j).take t.length ≠ t) : ∀ j, j < k → (s.drop j).take t.length ≠ t := by
  intro j hj e
  by_cases hji : j < i
  · exact hno j hji e
  · have h1 : ((s.drop j).take t.length)[0]? = t[0]? := by rw [e]
    rw [List.getElem?_take, if_pos (by omega), List.getElem?_drop, List.getElem?_eq_getElem (show 0 < t.length by omega), Nat.add_zero] at h1
    exact hk j (by omega) hj h1

theorem hit_two {s t : List UInt8} {i : Nat} (h2 : 2 ≤ t.length) (hi : i + t.length ≤ s.length) : ((s[i + 1]'(by omega)).toNat == (t[1]'(by omega)).toNat && ((s.drop i).take t.length == t)) = ((s.drop i).take t.length == t) := by
  rw [u8_eqN, win_two h2 hi]
  cases (s[i]'(by omega) == t[0]'(by omega)) <;> cases (s[i + 1]'(by omega) == t[1]'(by omega)) <;> simp

set_option maxHeartbeats 2000000 in
theorem c_bytes_Index (m : Mem) (x y : EV) (s t : List UInt8) (hx : BytesAt G m x s) (hy : BytesAt G m y t) (h2 : 2 ≤ t.length) (hN : s.length ≤ 4000000000) : Go.Ev.Comes T G f_bytes_Index [x, y] m none ⟨.val (.int .i64 (Go.Lib.index s t)), m, none⟩ := by
  refine comes2 T_bytes_Index rfl fun M hg hlen hlow => ?_
  have hl0 : m.bl.length ≤ M.low := by omega
  obtain ⟨kk, hkk⟩ := g_max
  have hkg : M.get G ⟨.glob g_bytealg_MaxLen, 0⟩ = some (.int .i64 kk) := by simp [Mem.get, Mem.row, hkk]
  have hx := hx.grown hg
  have hy := hy.grown hg
  have ht0 : t ≠ [] := by rintro rfl; simp at h2
  obtain ⟨ax, cx, ex, sx⟩ := hx.slice
  obtain ⟨b, capb, sy, hcb, hob, hgb, hbt⟩ := hy.pos ht0
  have b0 := hbt 0 (by omega)
  have b1 := hbt 1 (by omega)
  rw [Ad.plus_zero] at b0
  have n0 : (t.length == 0) = false := by simp; omega
  have n1 : ((t.length : Int) == 1) = false := by rw [show (1 : Int) = ((1 : Nat) : Int) from rfl, int_beq]; simp; omega
  have t0 : 0 < t.length := by omega
  have t1 : ((1 : Int) < (t.length : Int)) = True := eq_true (by omega)
  simp only [F_bytes_Index]
  by_cases hn : t.length = s.length
  · have k1 : (t.length == s.length) = true := by simpa using hn
    have he := c_bytes_Equal M y x t s hy hx
    rw [sy] at he
    rw [sx] at he
    cases hq : t == s with
    | true =>
      have hts : t = s := by simpa using hq
      have e : Go.Lib.index s t = 0 := index_at (i := 0) (by omega) (by rw [hts]; simp) (fun j hj => by omega)
      rw [hq] at he
      simp +contextual only [vq, vc, ve, vv, vn, vl, ↓reduceIte, Nat.reduceEqDiff, Nat.reduceAdd, Nat.reduceMul, Nat.reduceSub, Nat.reduceLeDiff, Nat.reduceLT, Nat.reduceBEq, Nat.reduceBNe, reduceCtorEq, Int.reduceBEq, Int.reduceBNe, Int.reduceLT, Int.reduceLE, Int.reduceEq, Int.reduceToNat, Int.reduceAdd, Int.reduceSub, Int.reduceNeg, sx, sy, n0, n1, k1, callR_val he, hl0, e]
    | false =>
      have hts : t ≠ s := by simpa using hq
      have e : Go.Lib.index s t = -1 := index_no fun j hj h => by
        obtain rfl : j = 0 := (by omega)
        rw [List.drop_zero, hn, List.take_length] at h
        exact hts h.symm
      rw [hq] at he
      simp +contextual only [vq, vc, ve, vv, vn, vl, ↓reduceIte, Nat.reduceEqDiff, Nat.reduceAdd, Nat.reduceMul, Nat.reduceSub, Nat.reduceLeDiff, Nat.reduceLT, Nat.reduceBEq, Nat.reduceBNe, reduceCtorEq, Int.reduceBEq, Int.reduceBNe, Int.reduceLT, Int.reduceLE, Int.reduceEq, Int.reduceToNat, Int.reduceAdd, Int.reduceSub, Int.reduceNeg, sx, sy, n0, n1, k1, callR_val he, hl0, e]
  have k1 : (t.length == s.length) = false := by simpa using hn
  by_cases hn2 : s.length < t.length
  · have e : Go.Lib.index s t = -1 := index_no fun j hj => by omega
    simp +contextual only [vq, vc, ve, vv, vn, vl, ↓reduceIte, Nat.reduceEqDiff, Nat.reduceAdd, Nat.reduceMul, Nat.reduceSub, Nat.reduceLeDiff, Nat.reduceLT, Nat.reduceBEq, Nat.reduceBNe, reduceCtorEq, Int.reduceBEq, Int.reduceBNe, Int.reduceLT, Int.reduceLE, Int.reduceEq, Int.reduceToNat, Int.reduceAdd, Int.reduceSub, Int.reduceNeg, sx, sy, n0, n1, k1, hn2, hl0, e]
  have hlt : t.length < s.length := by omega
  have hs0 : s ≠ [] := by rintro rfl; simp at hlt
  obtain ⟨a, cap, sx2, hc, ho, hgN, hat⟩ := hx.pos hs0
  have hw1 : IntKind.i64.wrap ((s.length : Int) - (t.length : Int)) = ((s.length - t.length : Nat) : Int) := wrap_of (by omega) (by omega)
  have hw2 : IntKind.i64.wrap (((s.length - t.length : Nat) : Int) + 1) = ((s.length - t.length + 1 : Nat) : Int) := wrap_of (by omega) (by omega)
  by_cases hmax : (t.length : Int) ≤ kk
  · by_cases h64 : s.length ≤ 64
    · have e64 : ((s.length : Int) ≤ 64) = True := eq_true (by omega)
      have hc2 := c_bytealg_Index M x y s t kk hkk hx hy h2 hmax (by omega)
      rw [sx2, sy] at hc2
      simp +contextual only [vq, vc, ve, vv, vn, vl, ↓reduceIte, Nat.reduceEqDiff, Nat.reduceAdd, Nat.reduceMul, Nat.reduceSub, Nat.reduceLeDiff, Nat.reduceLT, Nat.reduceBEq, Nat.reduceBNe, reduceCtorEq, Int.reduceBEq, Int.reduceBNe, Int.reduceLT, Int.reduceLE, Int.reduceEq, Int.reduceToNat, Int.reduceAdd, Int.reduceSub, Int.reduceNeg, sx2, sy, n0, n1, k1, hn2, hmax, hkg, e64, callR_val hc2, hl0]
    have e64 : ((s.length : Int) ≤ 64) = False := eq_false (by omega)
    simp +contextual only [vq, vc, ve, vv, vn, vl, ↓reduceIte, Nat.reduceEqDiff, Nat.reduceAdd, Nat.reduceMul, Nat.reduceSub, Nat.reduceLeDiff, Nat.reduceLT, Nat.reduceBEq, Nat.reduceBNe, reduceCtorEq, Int.reduceBEq, Int.reduceBNe, Int.reduceLT, Int.reduceLE, Int.reduceEq, Int.reduceToNat, Int.reduceAdd, Int.reduceSub, Int.reduceNeg, sx2, sy, n0, n1, k1, hn2, hmax, hkg, e64, t0, t1, b0, b1, hw1, hw2]
    refine loop2 (fun n st => ∃ i f A, st = ⟨A, M, [], none⟩ ∧ n = s.length + 1 - i ∧ f ≤ i ∧ i ≤ s.length + 1 ∧ A 0 = .slice (some a) s.length cap 1 ∧ A 1 = .slice (some b) t.length capb 1 ∧ A 5 = .int .i64 t.length ∧ A 6 = .int .u8 (t[0]'(by omega)).toNat ∧ A 7 = .int .u8 (t[1]'(by omega)).toNat ∧ A 8 = .int .i64 (i : Nat) ∧ A 9 = .int .i64 ((s.length - t.length + 1 : Nat) : Int) ∧ A 10 = .int .i64 (f : Nat) ∧ ∀ j, j < i → (s.drop j).take t.length ≠ t) (s.length + 1) ⟨0, 0, _, rfl, by omega, by omega, by omega, by simp +contextual only [vq, vc, ve, vv, vn, vl, ↓reduceIte, Nat.reduceEqDiff, Nat.reduceAdd, Nat.reduceMul, Nat.reduceSub, Nat.reduceLeDiff, Nat.reduceLT, Nat.reduceBEq, Nat.reduceBNe, reduceCtorEq, Int.reduceBEq, Int.reduceBNe, Int.reduceLT, Int.reduceLE, Int.reduceEq, Int.reduceToNat, Int.reduceAdd, Int.reduceSub, Int.reduceNeg], by simp +contextual only [vq, vc, ve, vv, vn, vl, ↓reduceIte, Nat.reduceEqDiff, Nat.reduceAdd, Nat.reduceMul, Nat.reduceSub, Nat.reduceLeDiff, Nat.reduceLT, Nat.reduceBEq, Nat.reduceBNe, reduceCtorEq, Int.reduceBEq, Int.reduceBNe, Int.reduceLT, Int.reduceLE, Int.reduceEq, Int.reduceToNat, Int.reduceAdd, Int.reduceSub, Int.reduceNeg], by simp +contextual only [vq, vc, ve, vv, vn, vl, ↓reduceIte, Nat.reduceEqDiff, Nat.reduceAdd, Nat.reduceMul, Nat.reduceSub, Nat.reduceLeDiff, Nat.reduceLT, Nat.reduceBEq, Nat.reduceBNe, reduceCtorEq, Int.reduceBEq, Int.reduceBNe, Int.reduceLT, Int.reduceLE, Int.reduceEq, Int.reduceToNat, Int.reduceAdd, Int.reduceSub, Int.reduceNeg], by simp +contextual only [vq, vc, ve, vv, vn, vl, ↓reduceIte, Nat.reduceEqDiff, Nat.reduceAdd, Nat.reduceMul, Nat.reduceSub, Nat.reduceLeDiff, Nat.reduceLT, Nat.reduceBEq, Nat.reduceBNe, reduceCtorEq, Int.reduceBEq, Int.reduceBNe, Int.reduceLT, Int.reduceLE, Int.reduceEq, Int.reduceToNat, Int.reduceAdd, Int.reduceSub, Int.reduceNeg], by simp +contextual only [vq, vc, ve, vv, vn, vl, ↓reduceIte, Nat.reduceEqDiff, Nat.reduceAdd, Nat.reduceMul, Nat.reduceSub, Nat.reduceLeDiff, Nat.reduceLT, Nat.reduceBEq, Nat.reduceBNe, reduceCtorEq, Int.reduceBEq, Int.reduceBNe, Int.reduceLT, Int.reduceLE, Int.reduceEq, Int.reduceToNat, Int.reduceAdd, Int.reduceSub, Int.reduceNeg], by simp +contextual only [vq, vc, ve, vv, vn, vl, ↓reduceIte, Nat.reduceEqDiff, Nat.reduceAdd, Nat.reduceMul, Nat.reduceSub, Nat.reduceLeDiff, Nat.reduceLT, Nat.reduceBEq, Nat.reduceBNe, reduceCtorEq, Int.reduceBEq, Int.reduceBNe, Int.reduceLT, Int.reduceLE, Int.reduceEq, Int.reduceToNat, Int.reduceAdd, Int.reduceSub, Int.reduceNeg]; rfl, by simp +contextual only [vq, vc, ve, vv, vn, vl, ↓reduceIte, Nat.reduceEqDiff, Nat.reduceAdd, Nat.reduceMul, Nat.reduceSub, Nat.reduceLeDiff, Nat.reduceLT, Nat.reduceBEq, Nat.reduceBNe, reduceCtorEq, Int.reduceBEq, Int.reduceBNe, Int.reduceLT, Int.reduceLE, Int.reduceEq, Int.reduceToNat, Int.reduceAdd, Int.reduceSub, Int.reduceNeg], by simp +contextual only [vq, vc, ve, vv, vn, vl, ↓reduceIte, Nat.reduceEqDiff, Nat.reduceAdd, Nat.reduceMul, Nat.reduceSub, Nat.reduceLeDiff, Nat.reduceLT, Nat.reduceBEq, Nat.reduceBNe, reduceCtorEq, Int.reduceBEq, Int.reduceBNe, Int.reduceLT, Int.reduceLE, Int.reduceEq, Int.reduceToNat, Int.reduceAdd, Int.reduceSub, Int.reduceNeg]; rfl, fun j hj => by omega⟩ fun J hJ n st hI => ?_
    obtain ⟨i, f, A, rfl, rfl, hfi, hi, A0, A1, A5, AC0, AC1, AI, AT, AF, hno⟩ := hI
    by_cases hlt2 : i < s.length - t.length + 1
    case neg =>
      have e : Go.Lib.index s t = -1 := index_no fun j hj => hno j (by omega)
      simp +contextual only [vq, vc, ve, vv, vn, vl, ↓reduceIte, Nat.reduceEqDiff, Nat.reduceAdd, Nat.reduceMul, Nat.reduceSub, Nat.reduceLeDiff, Nat.reduceLT, Nat.reduceBEq, Nat.reduceBNe, reduceCtorEq, Int.reduceBEq, Int.reduceBNe, Int.reduceLT, Int.reduceLE, Int.reduceEq, Int.reduceToNat, Int.reduceAdd, Int.reduceSub, Int.reduceNeg, AI, AT, hlt2, hl0, e]
    have his : i < s.length := by omega
    have hit := hat i his
    cases hq0 : s[i] == t[0]'(by omega) with
    | true =>
      have k0 : (s[i].toNat != (t[0]'(by omega)).toNat) = false := by rw [bne, u8_eqN, hq0]; rfl
      have hno2 := hno
      have hp1 : i + 1 < s.length := by omega
      have hwi : IntKind.i64.wrap ((i : Nat) + 1 : Int) = ((i + 1 : Nat) : Int) := wrap_of (by omega) (by omega)
      have hwn : IntKind.i64.wrap (((i : Nat) : Int) + (t.length : Int)) = ((i + t.length : Nat) : Int) := wrap_of (by omega) (by omega)
      have q1 : i ≤ i + t.length := by omega
      have q2 : i + t.length ≤ cap := by omega
      have q3 : i + t.length - (i) = t.length := by omega
      have hpart := bytes_part hc ho hgN (show i ≤ i + t.length by omega) (by omega)
      rw [q3] at hpart
      have heq := c_bytes_Equal M _ y _ t hpart hy
      rw [sy] at heq
      have h2t := hit_two (s := s) (t := t) (i := i) h2 (by omega)
      have hwf : IntKind.i64.wrap ((f : Int) + 1) = ((f + 1 : Nat) : Int) := wrap_of (by omega) (by omega)
      have hwk : IntKind.i64.wrap (((i : Nat) : Int) + 1) = ((i + 1 : Nat) : Int) := wrap_of (by omega) (by omega)
      simp +contextual only [vq, vc, ve, vv, vn, vl, ↓reduceIte, Nat.reduceEqDiff, Nat.reduceAdd, Nat.reduceMul, Nat.reduceSub, Nat.reduceLeDiff, Nat.reduceLT, Nat.reduceBEq, Nat.reduceBNe, reduceCtorEq, Int.reduceBEq, Int.reduceBNe, Int.reduceLT, Int.reduceLE, Int.reduceEq, Int.reduceToNat, Int.reduceAdd, Int.reduceSub, Int.reduceNeg, A0, A1, A5, AC0, AC1, AI, AT, hlt2, his, hit, k0, hp1, hat _ hp1, hwi, hwk, hwn, q1, q2, q3, callR_val heq, h2t]
      refine br2_mk (fun hq => ?_) (fun hq => ?_)
      · have hq : (s.drop (i)).take t.length = t := by simpa using hq
        have e : Go.Lib.index s t = ((i : Nat) : Int) := index_at (by omega) hq hno2
        simp +contextual only [vq, vc, ve, vv, vn, vl, ↓reduceIte, Nat.reduceEqDiff, Nat.reduceAdd, Nat.reduceMul, Nat.reduceSub, Nat.reduceLeDiff, Nat.reduceLT, Nat.reduceBEq, Nat.reduceBNe, reduceCtorEq, Int.reduceBEq, Int.reduceBNe, Int.reduceLT, Int.reduceLE, Int.reduceEq, Int.reduceToNat, Int.reduceAdd, Int.reduceSub, Int.reduceNeg, AI, hl0, e]
      have hq : (s.drop (i)).take t.length ≠ t := by simpa using hq
      have hno3 : ∀ j, j < i + 1 → (s.drop j).take t.length ≠ t := fun j hj => by
        by_cases hji : j = i
        · rw [hji]; exact hq
        · exact hno2 j (by omega)
      have hdrop := bytes_drop hc ho hgN (show i + 1 ≤ s.length by omega)
      have hx1 := index_from (s := s) (t := t) (i := i + 1) (by omega) hno3
      have hroom := Go.Lib.index_room (s.drop (i + 1)) t
      have hge := Go.Lib.index_ge (s.drop (i + 1)) t
      rw [List.length_drop] at hroom
      have q4 : i + 1 ≤ s.length := by omega
      have hcut := c_bytealg_Cutover M (i + 1) (by omega)
      have hix := c_bytealg_Index M _ y _ t kk hkk hdrop hy h2 hmax (by rw [List.length_drop]; omega)
      rw [sy] at hix
      simp +contextual only [vq, vc, ve, vv, vn, vl, ↓reduceIte, Nat.reduceEqDiff, Nat.reduceAdd, Nat.reduceMul, Nat.reduceSub, Nat.reduceLeDiff, Nat.reduceLT, Nat.reduceBEq, Nat.reduceBNe, reduceCtorEq, Int.reduceBEq, Int.reduceBNe, Int.reduceLT, Int.reduceLE, Int.reduceEq, Int.reduceToNat, Int.reduceAdd, Int.reduceSub, Int.reduceNeg, A0, A1, AI, AF, hwf, hwk, callR_val hcut]
      refine br2_dec (fun hcu => ?_) (fun hcu => ?_)
      · by_cases hr : 0 ≤ Go.Lib.index (s.drop (i + 1)) t
        · rw [if_neg (by omega)] at hx1
          have hroom := hroom hr
          have hwr : IntKind.i64.wrap (Go.Lib.index (s.drop (i + 1)) t + ((i + 1 : Nat) : Int)) = Go.Lib.index s t := by rw [wrap64 (by omega) (by omega), hx1]; omega
          simp +contextual only [vq, vc, ve, vv, vn, vl, ↓reduceIte, Nat.reduceEqDiff, Nat.reduceAdd, Nat.reduceMul, Nat.reduceSub, Nat.reduceLeDiff, Nat.reduceLT, Nat.reduceBEq, Nat.reduceBNe, reduceCtorEq, Int.reduceBEq, Int.reduceBNe, Int.reduceLT, Int.reduceLE, Int.reduceEq, Int.reduceToNat, Int.reduceAdd, Int.reduceSub, Int.reduceNeg, A0, A1, q4, hc, callR_val hix, hr, hwr, hl0]
        · rw [if_pos (by omega)] at hx1
          simp +contextual only [vq, vc, ve, vv, vn, vl, ↓reduceIte, Nat.reduceEqDiff, Nat.reduceAdd, Nat.reduceMul, Nat.reduceSub, Nat.reduceLeDiff, Nat.reduceLT, Nat.reduceBEq, Nat.reduceBNe, reduceCtorEq, Int.reduceBEq, Int.reduceBNe, Int.reduceLT, Int.reduceLE, Int.reduceEq, Int.reduceToNat, Int.reduceAdd, Int.reduceSub, Int.reduceNeg, A0, A1, q4, hc, callR_val hix, hr, hl0, hx1]
      · simp +contextual only [vq, vc, ve, vv, vn, vl, ↓reduceIte, Nat.reduceEqDiff, Nat.reduceAdd, Nat.reduceMul, Nat.reduceSub, Nat.reduceLeDiff, Nat.reduceLT, Nat.reduceBEq, Nat.reduceBNe, reduceCtorEq, Int.reduceBEq, Int.reduceBNe, Int.reduceLT, Int.reduceLE, Int.reduceEq, Int.reduceToNat, Int.reduceAdd, Int.reduceSub, Int.reduceNeg]
        exact again2 hJ (s.length + 1 - (i + 1)) (by omega) ⟨i + 1, f + 1, _, rfl, rfl, by omega, by omega, by simp +contextual only [vq, vc, ve, vv, vn, vl, ↓reduceIte, Nat.reduceEqDiff, Nat.reduceAdd, Nat.reduceMul, Nat.reduceSub, Nat.reduceLeDiff, Nat.reduceLT, Nat.reduceBEq, Nat.reduceBNe, reduceCtorEq, Int.reduceBEq, Int.reduceBNe, Int.reduceLT, Int.reduceLE, Int.reduceEq, Int.reduceToNat, Int.reduceAdd, Int.reduceSub, Int.reduceNeg, A0], by simp +contextual only [vq, vc, ve, vv, vn, vl, ↓reduceIte, Nat.reduceEqDiff, Nat.reduceAdd, Nat.reduceMul, Nat.reduceSub, Nat.reduceLeDiff, Nat.reduceLT, Nat.reduceBEq, Nat.reduceBNe, reduceCtorEq, Int.reduceBEq, Int.reduceBNe, Int.reduceLT, Int.reduceLE, Int.reduceEq, Int.reduceToNat, Int.reduceAdd, Int.reduceSub, Int.reduceNeg, A1], by simp +contextual only [vq, vc, ve, vv, vn, vl, ↓reduceIte, Nat.reduceEqDiff, Nat.reduceAdd, Nat.reduceMul, Nat.reduceSub, Nat.reduceLeDiff, Nat.reduceLT, Nat.reduceBEq, Nat.reduceBNe, reduceCtorEq, Int.reduceBEq, Int.reduceBNe, Int.reduceLT, Int.reduceLE, Int.reduceEq, Int.reduceToNat, Int.reduceAdd, Int.reduceSub, Int.reduceNeg, A5], by simp +contextual only [vq, vc, ve, vv, vn, vl, ↓reduceIte, Nat.reduceEqDiff, Nat.reduceAdd, Nat.reduceMul, Nat.reduceSub, Nat.reduceLeDiff, Nat.reduceLT, Nat.reduceBEq, Nat.reduceBNe, reduceCtorEq, Int.reduceBEq, Int.reduceBNe, Int.reduceLT, Int.reduceLE, Int.reduceEq, Int.reduceToNat, Int.reduceAdd, Int.reduceSub, Int.reduceNeg, AC0], by simp +contextual only [vq, vc, ve, vv, vn, vl, ↓reduceIte, Nat.reduceEqDiff, Nat.reduceAdd, Nat.reduceMul, Nat.reduceSub, Nat.reduceLeDiff, Nat.reduceLT, Nat.reduceBEq, Nat.reduceBNe, reduceCtorEq, Int.reduceBEq, Int.reduceBNe, Int.reduceLT, Int.reduceLE, Int.reduceEq, Int.reduceToNat, Int.reduceAdd, Int.reduceSub, Int.reduceNeg, AC1], by simp +contextual only [vq, vc, ve, vv, vn, vl, ↓reduceIte, Nat.reduceEqDiff, Nat.reduceAdd, Nat.reduceMul, Nat.reduceSub, Nat.reduceLeDiff, Nat.reduceLT, Nat.reduceBEq, Nat.reduceBNe, reduceCtorEq, Int.reduceBEq, Int.reduceBNe, Int.reduceLT, Int.reduceLE, Int.reduceEq, Int.reduceToNat, Int.reduceAdd, Int.reduceSub, Int.reduceNeg], by simp +contextual only [vq, vc, ve, vv, vn, vl, ↓reduceIte, Nat.reduceEqDiff, Nat.reduceAdd, Nat.reduceMul, Nat.reduceSub, Nat.reduceLeDiff, Nat.reduceLT, Nat.reduceBEq, Nat.reduceBNe, reduceCtorEq, Int.reduceBEq, Int.reduceBNe, Int.reduceLT, Int.reduceLE, Int.reduceEq, Int.reduceToNat, Int.reduceAdd, Int.reduceSub, Int.reduceNeg, AT], by simp +contextual only [vq, vc, ve, vv, vn, vl, ↓reduceIte, Nat.reduceEqDiff, Nat.reduceAdd, Nat.reduceMul, Nat.reduceSub, Nat.reduceLeDiff, Nat.reduceLT, Nat.reduceBEq, Nat.reduceBNe, reduceCtorEq, Int.reduceBEq, Int.reduceBNe, Int.reduceLT, Int.reduceLE, Int.reduceEq, Int.reduceToNat, Int.reduceAdd, Int.reduceSub, Int.reduceNeg], hno3⟩
    | false =>
      have k0 : (s[i].toNat != (t[0]'(by omega)).toNat) = true := by rw [bne, u8_eqN, hq0]; rfl
      have hne0 : s[i] ≠ t[0]'(by omega) := by simpa using hq0
      have hsub := bytes_part hc ho hgN (show i + 1 ≤ s.length - t.length + 1 by omega) (by omega)
      have hib := c_bytes_IndexByte M _ _ (t[0]'(by omega)) hsub
      have hwi0 : IntKind.i64.wrap ((i : Int) + 1) = ((i + 1 : Nat) : Int) := wrap_of (by omega) (by omega)
      have q5 : i + 1 ≤ s.length - t.length + 1 := by omega
      have q6 : s.length - t.length + 1 ≤ cap := by omega
      by_cases hfb : findByte ((s.drop (i + 1)).take (s.length - t.length + 1 - (i + 1))) (t[0]'(by omega)) < 0
      · have hnone := findByte_neg hfb
        have e : Go.Lib.index s t = -1 := index_no fun j hj => no_first h2 (i := i) (k := s.length - t.length + 1) (fun q h1 h3 he => by
          by_cases hqi : q = i
          · rw [hqi, List.getElem?_eq_getElem his] at he
            exact hne0 (Option.some.inj he)
          · refine hnone _ ?_ rfl
            have : ((s.drop (i + 1)).take (s.length - t.length + 1 - (i + 1)))[q - (i + 1)]? = some (t[0]'(by omega)) := by
              rw [List.getElem?_take, if_pos (by omega), List.getElem?_drop, show i + 1 + (q - (i + 1)) = q by omega]
              exact he
            exact List.mem_of_getElem? this) hno j (by omega)
        simp +contextual only [vq, vc, ve, vv, vn, vl, ↓reduceIte, Nat.reduceEqDiff, Nat.reduceAdd, Nat.reduceMul, Nat.reduceSub, Nat.reduceLeDiff, Nat.reduceLT, Nat.reduceBEq, Nat.reduceBNe, reduceCtorEq, Int.reduceBEq, Int.reduceBNe, Int.reduceLT, Int.reduceLE, Int.reduceEq, Int.reduceToNat, Int.reduceAdd, Int.reduceSub, Int.reduceNeg, A0, AC0, AI, AT, hlt2, his, hit, k0, hwi0, q5, q6, callR_val hib, hfb, hl0, e]
      obtain ⟨o, hoe, hol, hoa, hob2⟩ := findByte_pos hfb
      rw [hoe] at hib hfb
      have hol' : o < s.length - t.length + 1 - (i + 1) := by simp at hol; omega
      have hso : s[i + 1 + o]? = some (t[0]'(by omega)) := by
        rw [List.getElem?_take, if_pos hol', List.getElem?_drop] at hoa
        exact hoa
      have hno2 : ∀ j, j < i + (o + 1) → (s.drop j).take t.length ≠ t := no_first h2 (i := i) (k := i + (o + 1)) (fun q h1 h3 he => by
        by_cases hqi : q = i
        · rw [hqi, List.getElem?_eq_getElem his] at he
          exact hne0 (Option.some.inj he)
        · refine hob2 (q - (i + 1)) (by omega) ?_
          rw [List.getElem?_take, if_pos (by omega), List.getElem?_drop, show i + 1 + (q - (i + 1)) = q by omega]
          exact he) hno
      have hwo1 : IntKind.i64.wrap ((o : Int) + 1) = ((o + 1 : Nat) : Int) := wrap_of (by omega) (by omega)
      have hwo2 : IntKind.i64.wrap ((i : Int) + ((o + 1 : Nat) : Int)) = ((i + (o + 1) : Nat) : Int) := wrap_of (by omega) (by omega)
      have hp1 : (i + (o + 1)) + 1 < s.length := by omega
      have hwi : IntKind.i64.wrap (((i + (o + 1)) : Nat) + 1 : Int) = (((i + (o + 1)) + 1 : Nat) : Int) := wrap_of (by omega) (by omega)
      have hwn : IntKind.i64.wrap ((((i + (o + 1)) : Nat) : Int) + (t.length : Int)) = (((i + (o + 1)) + t.length : Nat) : Int) := wrap_of (by omega) (by omega)
      have q1 : (i + (o + 1)) ≤ (i + (o + 1)) + t.length := by omega
      have q2 : (i + (o + 1)) + t.length ≤ cap := by omega
      have q3 : (i + (o + 1)) + t.length - ((i + (o + 1))) = t.length := by omega
      have hpart := bytes_part hc ho hgN (show (i + (o + 1)) ≤ (i + (o + 1)) + t.length by omega) (by omega)
      rw [q3] at hpart
      have heq := c_bytes_Equal M _ y _ t hpart hy
      rw [sy] at heq
      have h2t := hit_two (s := s) (t := t) (i := (i + (o + 1))) h2 (by omega)
      have hwf : IntKind.i64.wrap ((f : Int) + 1) = ((f + 1 : Nat) : Int) := wrap_of (by omega) (by omega)
      have hwk : IntKind.i64.wrap ((((i + (o + 1)) : Nat) : Int) + 1) = (((i + (o + 1)) + 1 : Nat) : Int) := wrap_of (by omega) (by omega)
      simp +contextual only [vq, vc, ve, vv, vn, vl, ↓reduceIte, Nat.reduceEqDiff, Nat.reduceAdd, Nat.reduceMul, Nat.reduceSub, Nat.reduceLeDiff, Nat.reduceLT, Nat.reduceBEq, Nat.reduceBNe, reduceCtorEq, Int.reduceBEq, Int.reduceBNe, Int.reduceLT, Int.reduceLE, Int.reduceEq, Int.reduceToNat, Int.reduceAdd, Int.reduceSub, Int.reduceNeg, A0, A1, A5, AC0, AC1, AI, AT, hlt2, his, hit, k0, hwi0, q5, q6, callR_val hib, hfb, hwo1, hwo2, hp1, hat _ hp1, hwi, hwk, hwn, q1, q2, q3, callR_val heq, h2t]
      refine br2_mk (fun hq => ?_) (fun hq => ?_)
      · have hq : (s.drop ((i + (o + 1)))).take t.length = t := by simpa using hq
        have e : Go.Lib.index s t = (((i + (o + 1)) : Nat) : Int) := index_at (by omega) hq hno2
        simp +contextual only [vq, vc, ve, vv, vn, vl, ↓reduceIte, Nat.reduceEqDiff, Nat.reduceAdd, Nat.reduceMul, Nat.reduceSub, Nat.reduceLeDiff, Nat.reduceLT, Nat.reduceBEq, Nat.reduceBNe, reduceCtorEq, Int.reduceBEq, Int.reduceBNe, Int.reduceLT, Int.reduceLE, Int.reduceEq, Int.reduceToNat, Int.reduceAdd, Int.reduceSub, Int.reduceNeg, AI, hl0, e]
      have hq : (s.drop ((i + (o + 1)))).take t.length ≠ t := by simpa using hq
      have hno3 : ∀ j, j < (i + (o + 1)) + 1 → (s.drop j).take t.length ≠ t := fun j hj => by
        by_cases hji : j = (i + (o + 1))
        · rw [hji]; exact hq
        · exact hno2 j (by omega)
      have hdrop := bytes_drop hc ho hgN (show (i + (o + 1)) + 1 ≤ s.length by omega)
      have hx1 := index_from (s := s) (t := t) (i := (i + (o + 1)) + 1) (by omega) hno3
      have hroom := Go.Lib.index_room (s.drop ((i + (o + 1)) + 1)) t
      have hge := Go.Lib.index_ge (s.drop ((i + (o + 1)) + 1)) t
      rw [List.length_drop] at hroom
      have q4 : (i + (o + 1)) + 1 ≤ s.length := by omega
      have hcut := c_bytealg_Cutover M ((i + (o + 1)) + 1) (by omega)
      have hix := c_bytealg_Index M _ y _ t kk hkk hdrop hy h2 hmax (by rw [List.length_drop]; omega)
      rw [sy] at hix
      simp +contextual only [vq, vc, ve, vv, vn, vl, ↓reduceIte, Nat.reduceEqDiff, Nat.reduceAdd, Nat.reduceMul, Nat.reduceSub, Nat.reduceLeDiff, Nat.reduceLT, Nat.reduceBEq, Nat.reduceBNe, reduceCtorEq, Int.reduceBEq, Int.reduceBNe, Int.reduceLT, Int.reduceLE, Int.reduceEq, Int.reduceToNat, Int.reduceAdd, Int.reduceSub, Int.reduceNeg, A0, A1, AI, AF, hwf, hwk, callR_val hcut]
      refine br2_dec (fun hcu => ?_) (fun hcu => ?_)
      · by_cases hr : 0 ≤ Go.Lib.index (s.drop ((i + (o + 1)) + 1)) t
        · rw [if_neg (by omega)] at hx1
          have hroom := hroom hr
          have hwr : IntKind.i64.wrap (Go.Lib.index (s.drop ((i + (o + 1)) + 1)) t + (((i + (o + 1)) + 1 : Nat) : Int)) = Go.Lib.index s t := by rw [wrap64 (by omega) (by omega), hx1]; omega
          simp +contextual only [vq, vc, ve, vv, vn, vl, ↓reduceIte, Nat.reduceEqDiff, Nat.reduceAdd, Nat.reduceMul, Nat.reduceSub, Nat.reduceLeDiff, Nat.reduceLT, Nat.reduceBEq, Nat.reduceBNe, reduceCtorEq, Int.reduceBEq, Int.reduceBNe, Int.reduceLT, Int.reduceLE, Int.reduceEq, Int.reduceToNat, Int.reduceAdd, Int.reduceSub, Int.reduceNeg, A0, A1, q4, hc, callR_val hix, hr, hwr, hl0]
        · rw [if_pos (by omega)] at hx1
          simp +contextual only [vq, vc, ve, vv, vn, vl, ↓reduceIte, Nat.reduceEqDiff, Nat.reduceAdd, Nat.reduceMul, Nat.reduceSub, Nat.reduceLeDiff, Nat.reduceLT, Nat.reduceBEq, Nat.reduceBNe, reduceCtorEq, Int.reduceBEq, Int.reduceBNe, Int.reduceLT, Int.reduceLE, Int.reduceEq, Int.reduceToNat, Int.reduceAdd, Int.reduceSub, Int.reduceNeg, A0, A1, q4, hc, callR_val hix, hr, hl0, hx1]
      · simp +contextual only [vq, vc, ve, vv, vn, vl, ↓reduceIte, Nat.reduceEqDiff, Nat.reduceAdd, Nat.reduceMul, Nat.reduceSub, Nat.reduceLeDiff, Nat.reduceLT, Nat.reduceBEq, Nat.reduceBNe, reduceCtorEq, Int.reduceBEq, Int.reduceBNe, Int.reduceLT, Int.reduceLE, Int.reduceEq, Int.reduceToNat, Int.reduceAdd, Int.reduceSub, Int.reduceNeg]
        exact again2 hJ (s.length + 1 - ((i + (o + 1)) + 1)) (by omega) ⟨(i + (o + 1)) + 1, f + 1, _, rfl, rfl, by omega, by omega, by simp +contextual only [vq, vc, ve, vv, vn, vl, ↓reduceIte, Nat.reduceEqDiff, Nat.reduceAdd, Nat.reduceMul, Nat.reduceSub, Nat.reduceLeDiff, Nat.reduceLT, Nat.reduceBEq, Nat.reduceBNe, reduceCtorEq, Int.reduceBEq, Int.reduceBNe, Int.reduceLT, Int.reduceLE, Int.reduceEq, Int.reduceToNat, Int.reduceAdd, Int.reduceSub, Int.reduceNeg, A0], by simp +contextual only [vq, vc, ve, vv, vn, vl, ↓reduceIte, Nat.reduceEqDiff, Nat.reduceAdd, Nat.reduceMul, Nat.reduceSub, Nat.reduceLeDiff, Nat.reduceLT, Nat.reduceBEq, Nat.reduceBNe, reduceCtorEq, Int.reduceBEq, Int.reduceBNe, Int.reduceLT, Int.reduceLE, Int.reduceEq, Int.reduceToNat, Int.reduceAdd, Int.reduceSub, Int.reduceNeg, A1], by simp +contextual only [vq, vc, ve, vv, vn, vl, ↓reduceIte, Nat.reduceEqDiff, Nat.reduceAdd, Nat.reduceMul, Nat.reduceSub, Nat.reduceLeDiff, Nat.reduceLT, Nat.reduceBEq, Nat.reduceBNe, reduceCtorEq, Int.reduceBEq, Int.reduceBNe, Int.reduceLT, Int.reduceLE, Int.reduceEq, Int.reduceToNat, Int.reduceAdd, Int.reduceSub, Int.reduceNeg, A5], by simp +contextual only [vq, vc, ve, vv, vn, vl, ↓reduceIte, Nat.reduceEqDiff, Nat.reduceAdd, Nat.reduceMul, Nat.reduceSub, Nat.reduceLeDiff, Nat.reduceLT, Nat.reduceBEq, Nat.reduceBNe, reduceCtorEq, Int.reduceBEq, Int.reduceBNe, Int.reduceLT, Int.reduceLE, Int.reduceEq, Int.reduceToNat, Int.reduceAdd, Int.reduceSub, Int.reduceNeg, AC0], by simp +contextual only [vq, vc, ve, vv, vn, vl, ↓reduceIte, Nat.reduceEqDiff, Nat.reduceAdd, Nat.reduceMul, Nat.reduceSub, Nat.reduceLeDiff, Nat.reduceLT, Nat.reduceBEq, Nat.reduceBNe, reduceCtorEq, Int.reduceBEq, Int.reduceBNe, Int.reduceLT, Int.reduceLE, Int.reduceEq, Int.reduceToNat, Int.reduceAdd, Int.reduceSub, Int.reduceNeg, AC1], by simp +contextual only [vq, vc, ve, vv, vn, vl, ↓reduceIte, Nat.reduceEqDiff, Nat.reduceAdd, Nat.reduceMul, Nat.reduceSub, Nat.reduceLeDiff, Nat.reduceLT, Nat.reduceBEq, Nat.reduceBNe, reduceCtorEq, Int.reduceBEq, Int.reduceBNe, Int.reduceLT, Int.reduceLE, Int.reduceEq, Int.reduceToNat, Int.reduceAdd, Int.reduceSub, Int.reduceNeg], by simp +contextual only [vq, vc, ve, vv, vn, vl, ↓reduceIte, Nat.reduceEqDiff, Nat.reduceAdd, Nat.reduceMul, Nat.reduceSub, Nat.reduceLeDiff, Nat.reduceLT, Nat.reduceBEq, Nat.reduceBNe, reduceCtorEq, Int.reduceBEq, Int.reduceBNe, Int.reduceLT, Int.reduceLE, Int.reduceEq, Int.reduceToNat, Int.reduceAdd, Int.reduceSub, Int.reduceNeg, AT], by simp +contextual only [vq, vc, ve, vv, vn, vl, ↓reduceIte, Nat.reduceEqDiff, Nat.reduceAdd, Nat.reduceMul, Nat.reduceSub, Nat.reduceLeDiff, Nat.reduceLT, Nat.reduceBEq, Nat.reduceBNe, reduceCtorEq, Int.reduceBEq, Int.reduceBNe, Int.reduceLT, Int.reduceLE, Int.reduceEq, Int.reduceToNat, Int.reduceAdd, Int.reduceSub, Int.reduceNeg], hno3⟩
  · simp +contextual only [vq, vc, ve, vv, vn, vl, ↓reduceIte, Nat.reduceEqDiff, Nat.reduceAdd, Nat.reduceMul, Nat.reduceSub, Nat.reduceLeDiff, Nat.reduceLT, Nat.reduceBEq, Nat.reduceBNe, reduceCtorEq, Int.reduceBEq, Int.reduceBNe, Int.reduceLT, Int.reduceLE, Int.reduceEq, Int.reduceToNat, Int.reduceAdd, Int.reduceSub, Int.reduceNeg, sx2, sy, n0, n1, k1, hn2, hmax, hkg, t0, t1, b0, b1, hw1, hw2]
    refine loop2 (fun n st => ∃ i f A, st = ⟨A, M, [], none⟩ ∧ n = s.length + 1 - i ∧ f ≤ i ∧ i ≤ s.length + 1 ∧ A 0 = .slice (some a) s.length cap 1 ∧ A 1 = .slice (some b) t.length capb 1 ∧ A 5 = .int .i64 t.length ∧ A 13 = .int .u8 (t[0]'(by omega)).toNat ∧ A 14 = .int .u8 (t[1]'(by omega)).toNat ∧ A 15 = .int .i64 (i : Nat) ∧ A 17 = .int .i64 ((s.length - t.length + 1 : Nat) : Int) ∧ A 16 = .int .i64 (f : Nat) ∧ ∀ j, j < i → (s.drop j).take t.length ≠ t) (s.length + 1) ⟨0, 0, _, rfl, by omega, by omega, by omega, by simp +contextual only [vq, vc, ve, vv, vn, vl, ↓reduceIte, Nat.reduceEqDiff, Nat.reduceAdd, Nat.reduceMul, Nat.reduceSub, Nat.reduceLeDiff, Nat.reduceLT, Nat.reduceBEq, Nat.reduceBNe, reduceCtorEq, Int.reduceBEq, Int.reduceBNe, Int.reduceLT, Int.reduceLE, Int.reduceEq, Int.reduceToNat, Int.reduceAdd, Int.reduceSub, Int.reduceNeg], by simp +contextual only [vq, vc, ve, vv, vn, vl, ↓reduceIte, Nat.reduceEqDiff, Nat.reduceAdd, Nat.reduceMul, Nat.reduceSub, Nat.reduceLeDiff, Nat.reduceLT, Nat.reduceBEq, Nat.reduceBNe, reduceCtorEq, Int.reduceBEq, Int.reduceBNe, Int.reduceLT, Int.reduceLE, Int.reduceEq, Int.reduceToNat, Int.reduceAdd, Int.reduceSub, Int.reduceNeg], by simp +contextual only [vq, vc, ve, vv, vn, vl, ↓reduceIte, Nat.reduceEqDiff, Nat.reduceAdd, Nat.reduceMul, Nat.reduceSub, Nat.reduceLeDiff, Nat.reduceLT, Nat.reduceBEq, Nat.reduceBNe, reduceCtorEq, Int.reduceBEq, Int.reduceBNe, Int.reduceLT, Int.reduceLE, Int.reduceEq, Int.reduceToNat, Int.reduceAdd, Int.reduceSub, Int.reduceNeg], by simp +contextual only [vq, vc, ve, vv, vn, vl, ↓reduceIte, Nat.reduceEqDiff, Nat.reduceAdd, Nat.reduceMul, Nat.reduceSub, Nat.reduceLeDiff, Nat.reduceLT, Nat.reduceBEq, Nat.reduceBNe, reduceCtorEq, Int.reduceBEq, Int.reduceBNe, Int.reduceLT, Int.reduceLE, Int.reduceEq, Int.reduceToNat, Int.reduceAdd, Int.reduceSub, Int.reduceNeg], by simp +contextual only [vq, vc, ve, vv, vn, vl, ↓reduceIte, Nat.reduceEqDiff, Nat.reduceAdd, Nat.reduceMul, Nat.reduceSub, Nat.reduceLeDiff, Nat.reduceLT, Nat.reduceBEq, Nat.reduceBNe, reduceCtorEq, Int.reduceBEq, Int.reduceBNe, Int.reduceLT, Int.reduceLE, Int.reduceEq, Int.reduceToNat, Int.reduceAdd, Int.reduceSub, Int.reduceNeg], by simp +contextual only [vq, vc, ve, vv, vn, vl, ↓reduceIte, Nat.reduceEqDiff, Nat.reduceAdd, Nat.reduceMul, Nat.reduceSub, Nat.reduceLeDiff, Nat.reduceLT, Nat.reduceBEq, Nat.reduceBNe, reduceCtorEq, Int.reduceBEq, Int.reduceBNe, Int.reduceLT, Int.reduceLE, Int.reduceEq, Int.reduceToNat, Int.reduceAdd, Int.reduceSub, Int.reduceNeg]; rfl, by simp +contextual only [vq, vc, ve, vv, vn, vl, ↓reduceIte, Nat.reduceEqDiff, Nat.reduceAdd, Nat.reduceMul, Nat.reduceSub, Nat.reduceLeDiff, Nat.reduceLT, Nat.reduceBEq, Nat.reduceBNe, reduceCtorEq, Int.reduceBEq, Int.reduceBNe, Int.reduceLT, Int.reduceLE, Int.reduceEq, Int.reduceToNat, Int.reduceAdd, Int.reduceSub, Int.reduceNeg], by simp +contextual only [vq, vc, ve, vv, vn, vl, ↓reduceIte, Nat.reduceEqDiff, Nat.reduceAdd, Nat.reduceMul, Nat.reduceSub, Nat.reduceLeDiff, Nat.reduceLT, Nat.reduceBEq, Nat.reduceBNe, reduceCtorEq, Int.reduceBEq, Int.reduceBNe, Int.reduceLT, Int.reduceLE, Int.reduceEq, Int.reduceToNat, Int.reduceAdd, Int.reduceSub, Int.reduceNeg]; rfl, fun j hj => by omega⟩ fun J hJ n st hI => ?_
    obtain ⟨i, f, A, rfl, rfl, hfi, hi, A0, A1, A5, AC0, AC1, AI, AT, AF, hno⟩ := hI
    by_cases hlt2 : i < s.length - t.length + 1
    case neg =>
      have e : Go.Lib.index s t = -1 := index_no fun j hj => hno j (by omega)
      simp +contextual only [vq, vc, ve, vv, vn, vl, ↓reduceIte, Nat.reduceEqDiff, Nat.reduceAdd, Nat.reduceMul, Nat.reduceSub, Nat.reduceLeDiff, Nat.reduceLT, Nat.reduceBEq, Nat.reduceBNe, reduceCtorEq, Int.reduceBEq, Int.reduceBNe, Int.reduceLT, Int.reduceLE, Int.reduceEq, Int.reduceToNat, Int.reduceAdd, Int.reduceSub, Int.reduceNeg, AI, AT, hlt2, hl0, e]
    have his : i < s.length := by omega
    have hit := hat i his
    cases hq0 : s[i] == t[0]'(by omega) with
    | true =>
      have k0 : (s[i].toNat != (t[0]'(by omega)).toNat) = false := by rw [bne, u8_eqN, hq0]; rfl
      have hno2 := hno
      have hp1 : i + 1 < s.length := by omega
      have hwi : IntKind.i64.wrap ((i : Nat) + 1 : Int) = ((i + 1 : Nat) : Int) := wrap_of (by omega) (by omega)
      have hwn : IntKind.i64.wrap (((i : Nat) : Int) + (t.length : Int)) = ((i + t.length : Nat) : Int) := wrap_of (by omega) (by omega)
      have q1 : i ≤ i + t.length := by omega
      have q2 : i + t.length ≤ cap := by omega
      have q3 : i + t.length - (i) = t.length := by omega
      have hpart := bytes_part hc ho hgN (show i ≤ i + t.length by omega) (by omega)
      rw [q3] at hpart
      have heq := c_bytes_Equal M _ y _ t hpart hy
      rw [sy] at heq
      have h2t := hit_two (s := s) (t := t) (i := i) h2 (by omega)
      have hwf : IntKind.i64.wrap ((f : Int) + 1) = ((f + 1 : Nat) : Int) := wrap_of (by omega) (by omega)
      have hwk : IntKind.i64.wrap (((i : Nat) : Int) + 1) = ((i + 1 : Nat) : Int) := wrap_of (by omega) (by omega)
      simp +contextual only [vq, vc, ve, vv, vn, vl, ↓reduceIte, Nat.reduceEqDiff, Nat.reduceAdd, Nat.reduceMul, Nat.reduceSub, Nat.reduceLeDiff, Nat.reduceLT, Nat.reduceBEq, Nat.reduceBNe, reduceCtorEq, Int.reduceBEq, Int.reduceBNe, Int.reduceLT, Int.reduceLE, Int.reduceEq, Int.reduceToNat, Int.reduceAdd, Int.reduceSub, Int.reduceNeg, A0, A1, A5, AC0, AC1, AI, AT, hlt2, his, hit, k0, hp1, hat _ hp1, hwi, hwk, hwn, q1, q2, q3, callR_val heq, h2t]
      refine br2_mk (fun hq => ?_) (fun hq => ?_)
      · have hq : (s.drop (i)).take t.length = t := by simpa using hq
        have e : Go.Lib.index s t = ((i : Nat) : Int) := index_at (by omega) hq hno2
        simp +contextual only [vq, vc, ve, vv, vn, vl, ↓reduceIte, Nat.reduceEqDiff, Nat.reduceAdd, Nat.reduceMul, Nat.reduceSub, Nat.reduceLeDiff, Nat.reduceLT, Nat.reduceBEq, Nat.reduceBNe, reduceCtorEq, Int.reduceBEq, Int.reduceBNe, Int.reduceLT, Int.reduceLE, Int.reduceEq, Int.reduceToNat, Int.reduceAdd, Int.reduceSub, Int.reduceNeg, AI, hl0, e]
      have hq : (s.drop (i)).take t.length ≠ t := by simpa using hq
      have hno3 : ∀ j, j < i + 1 → (s.drop j).take t.length ≠ t := fun j hj => by
        by_cases hji : j = i
        · rw [hji]; exact hq
        · exact hno2 j (by omega)
      have hdrop := bytes_drop hc ho hgN (show i + 1 ≤ s.length by omega)
      have hx1 := index_from (s := s) (t := t) (i := i + 1) (by omega) hno3
      have hroom := Go.Lib.index_room (s.drop (i + 1)) t
      have hge := Go.Lib.index_ge (s.drop (i + 1)) t
      rw [List.length_drop] at hroom
      have q4 : i + 1 ≤ s.length := by omega
      have hsh : shiftE .shr .i64 ((i + 1 : Nat) : Int) 4 = some (.int .i64 (((i + 1) / 16 : Nat) : Int)) := by
        simp only [shiftE]
        rw [if_neg (by decide), show (2 : Int) ^ (min (Int.toNat 4) IntKind.i64.bits) = 16 by decide, Int.fdiv_eq_ediv_of_nonneg _ (by decide)]
        rfl
      have hw4 : IntKind.i64.wrap (4 + (((i + 1) / 16 : Nat) : Int)) = ((4 + (i + 1) / 16 : Nat) : Int) := wrap_of (by omega) (by omega)
      simp +contextual only [vq, vc, ve, vv, vn, vl, ↓reduceIte, Nat.reduceEqDiff, Nat.reduceAdd, Nat.reduceMul, Nat.reduceSub, Nat.reduceLeDiff, Nat.reduceLT, Nat.reduceBEq, Nat.reduceBNe, reduceCtorEq, Int.reduceBEq, Int.reduceBNe, Int.reduceLT, Int.reduceLE, Int.reduceEq, Int.reduceToNat, Int.reduceAdd, Int.reduceSub, Int.reduceNeg, A0, A1, AI, AF, AT, hwf, hwk, hsh, hw4]
      refine br2_mk (fun hcu => ?_) (fun hcu => ?_)
      · simp only [Bool.and_eq_true, decide_eq_true_eq] at hcu
        have hix := c_bytealg_IndexRabinKarp_bytes M _ y _ t hdrop hy h2 (by rw [List.length_drop]; omega) (by rw [List.length_drop]; omega)
        rw [sy] at hix
        by_cases hr : Go.Lib.index (s.drop (i + 1)) t < 0
        · rw [if_pos hr] at hx1
          simp +contextual only [vq, vc, ve, vv, vn, vl, ↓reduceIte, Nat.reduceEqDiff, Nat.reduceAdd, Nat.reduceMul, Nat.reduceSub, Nat.reduceLeDiff, Nat.reduceLT, Nat.reduceBEq, Nat.reduceBNe, reduceCtorEq, Int.reduceBEq, Int.reduceBNe, Int.reduceLT, Int.reduceLE, Int.reduceEq, Int.reduceToNat, Int.reduceAdd, Int.reduceSub, Int.reduceNeg, A0, A1, q4, hc, callR_val hix, hr, hl0, hx1]
        · rw [if_neg hr] at hx1
          have hroom := hroom (by omega)
          have hwr : IntKind.i64.wrap (((i + 1 : Nat) : Int) + Go.Lib.index (s.drop (i + 1)) t) = Go.Lib.index s t := by rw [wrap64 (by omega) (by omega), hx1]
          simp +contextual only [vq, vc, ve, vv, vn, vl, ↓reduceIte, Nat.reduceEqDiff, Nat.reduceAdd, Nat.reduceMul, Nat.reduceSub, Nat.reduceLeDiff, Nat.reduceLT, Nat.reduceBEq, Nat.reduceBNe, reduceCtorEq, Int.reduceBEq, Int.reduceBNe, Int.reduceLT, Int.reduceLE, Int.reduceEq, Int.reduceToNat, Int.reduceAdd, Int.reduceSub, Int.reduceNeg, A0, A1, q4, hc, callR_val hix, hr, hwr, hl0]
      · simp +contextual only [vq, vc, ve, vv, vn, vl, ↓reduceIte, Nat.reduceEqDiff, Nat.reduceAdd, Nat.reduceMul, Nat.reduceSub, Nat.reduceLeDiff, Nat.reduceLT, Nat.reduceBEq, Nat.reduceBNe, reduceCtorEq, Int.reduceBEq, Int.reduceBNe, Int.reduceLT, Int.reduceLE, Int.reduceEq, Int.reduceToNat, Int.reduceAdd, Int.reduceSub, Int.reduceNeg]
        exact again2 hJ (s.length + 1 - (i + 1)) (by omega) ⟨i + 1, f + 1, _, rfl, rfl, by omega, by omega, by simp +contextual only [vq, vc, ve, vv, vn, vl, ↓reduceIte, Nat.reduceEqDiff, Nat.reduceAdd, Nat.reduceMul, Nat.reduceSub, Nat.reduceLeDiff, Nat.reduceLT, Nat.reduceBEq, Nat.reduceBNe, reduceCtorEq, Int.reduceBEq, Int.reduceBNe, Int.reduceLT, Int.reduceLE, Int.reduceEq, Int.reduceToNat, Int.reduceAdd, Int.reduceSub, Int.reduceNeg, A0], by simp +contextual only [vq, vc, ve, vv, vn, vl, ↓reduceIte, Nat.reduceEqDiff, Nat.reduceAdd, Nat.reduceMul, Nat.reduceSub, Nat.reduceLeDiff, Nat.reduceLT, Nat.reduceBEq, Nat.reduceBNe, reduceCtorEq, Int.reduceBEq, Int.reduceBNe, Int.reduceLT, Int.reduceLE, Int.reduceEq, Int.reduceToNat, Int.reduceAdd, Int.reduceSub, Int.reduceNeg, A1], by simp +contextual only [vq, vc, ve, vv, vn, vl, ↓reduceIte, Nat.reduceEqDiff, Nat.reduceAdd, Nat.reduceMul, Nat.reduceSub, Nat.reduceLeDiff, Nat.reduceLT, Nat.reduceBEq, Nat.reduceBNe, reduceCtorEq, Int.reduceBEq, Int.reduceBNe, Int.reduceLT, Int.reduceLE, Int.reduceEq, Int.reduceToNat, Int.reduceAdd, Int.reduceSub, Int.reduceNeg, A5], by simp +contextual only [vq, vc, ve, vv, vn, vl, ↓reduceIte, Nat.reduceEqDiff, Nat.reduceAdd, Nat.reduceMul, Nat.reduceSub, Nat.reduceLeDiff, Nat.reduceLT, Nat.reduceBEq, Nat.reduceBNe, reduceCtorEq, Int.reduceBEq, Int.reduceBNe, Int.reduceLT, Int.reduceLE, Int.reduceEq, Int.reduceToNat, Int.reduceAdd, Int.reduceSub, Int.reduceNeg, AC0], by simp +contextual only [vq, vc, ve, vv, vn, vl, ↓reduceIte, Nat.reduceEqDiff, Nat.reduceAdd, Nat.reduceMul, Nat.reduceSub, Nat.reduceLeDiff, Nat.reduceLT, Nat.reduceBEq, Nat.reduceBNe, reduceCtorEq, Int.reduceBEq, Int.reduceBNe, Int.reduceLT, Int.reduceLE, Int.reduceEq, Int.reduceToNat, Int.reduceAdd, Int.reduceSub, Int.reduceNeg, AC1], by simp +contextual only [vq, vc, ve, vv, vn, vl, ↓reduceIte, Nat.reduceEqDiff, Nat.reduceAdd, Nat.reduceMul, Nat.reduceSub, Nat.reduceLeDiff, Nat.reduceLT, Nat.reduceBEq, Nat.reduceBNe, reduceCtorEq, Int.reduceBEq, Int.reduceBNe, Int.reduceLT, Int.reduceLE, Int.reduceEq, Int.reduceToNat, Int.reduceAdd, Int.reduceSub, Int.reduceNeg], by simp +contextual only [vq, vc, ve, vv, vn, vl, ↓reduceIte, Nat.reduceEqDiff, Nat.reduceAdd, Nat.reduceMul, Nat.reduceSub, Nat.reduceLeDiff, Nat.reduceLT, Nat.reduceBEq, Nat.reduceBNe, reduceCtorEq, Int.reduceBEq, Int.reduceBNe, Int.reduceLT, Int.reduceLE, Int.reduceEq, Int.reduceToNat, Int.reduceAdd, Int.reduceSub, Int.reduceNeg, AT], by simp +contextual only [vq, vc, ve, vv, vn, vl, ↓reduceIte, Nat.reduceEqDiff, Nat.reduceAdd, Nat.reduceMul, Nat.reduceSub, Nat.reduceLeDiff, Nat.reduceLT, Nat.reduceBEq, Nat.reduceBNe, reduceCtorEq, Int.reduceBEq, Int.reduceBNe, Int.reduceLT, Int.reduceLE, Int.reduceEq, Int.reduceToNat, Int.reduceAdd, Int.reduceSub, Int.reduceNeg], hno3⟩
    | false =>
      have k0 : (s[i].toNat != (t[0]'(by omega)).toNat) = true := by rw [bne, u8_eqN, hq0]; rfl
      have hne0 : s[i] ≠ t[0]'(by omega) := by simpa using hq0
      have hsub := bytes_part hc ho hgN (show i + 1 ≤ s.length - t.length + 1 by omega) (by omega)
      have hib := c_bytes_IndexByte M _ _ (t[0]'(by omega)) hsub
      have hwi0 : IntKind.i64.wrap ((i : Int) + 1) = ((i + 1 : Nat) : Int) := wrap_of (by omega) (by omega)
      have q5 : i + 1 ≤ s.length - t.length + 1 := by omega
      have q6 : s.length - t.length + 1 ≤ cap := by omega
      by_cases hfb : findByte ((s.drop (i + 1)).take (s.length - t.length + 1 - (i + 1))) (t[0]'(by omega)) < 0
      · have hnone := findByte_neg hfb
        have e : Go.Lib.index s t = -1 := index_no fun j hj => no_first h2 (i := i) (k := s.length - t.length + 1) (fun q h1 h3 he => by
          by_cases hqi : q = i
          · rw [hqi, List.getElem?_eq_getElem his] at he
            exact hne0 (Option.some.inj he)
          · refine hnone _ ?_ rfl
            have : ((s.drop (i + 1)).take (s.length - t.length + 1 - (i + 1)))[q - (i + 1)]? = some (t[0]'(by omega)) := by
              rw [List.getElem?_take, if_pos (by omega), List.getElem?_drop, show i + 1 + (q - (i + 1)) = q by omega]
              exact he
            exact List.mem_of_getElem? this) hno j (by omega)
        simp +contextual only [vq, vc, ve, vv, vn, vl, ↓reduceIte, Nat.reduceEqDiff, Nat.reduceAdd, Nat.reduceMul, Nat.reduceSub, Nat.reduceLeDiff, Nat.reduceLT, Nat.reduceBEq, Nat.reduceBNe, reduceCtorEq, Int.reduceBEq, Int.reduceBNe, Int.reduceLT, Int.reduceLE, Int.reduceEq, Int.reduceToNat, Int.reduceAdd, Int.reduceSub, Int.reduceNeg, A0, AC0, AI, AT, hlt2, his, hit, k0, hwi0, q5, q6, callR_val hib, hfb, hl0, e]
      obtain ⟨o, hoe, hol, hoa, hob2⟩ := findByte_pos hfb
      rw [hoe] at hib hfb
      have hol' : o < s.length - t.length + 1 - (i + 1) := by simp at hol; omega
      have hso : s[i + 1 + o]? = some (t[0]'(by omega)) := by
        rw [List.getElem?_take, if_pos hol', List.getElem?_drop] at hoa
        exact hoa
      have hno2 : ∀ j, j < i + (o + 1) → (s.drop j).take t.length ≠ t := no_first h2 (i := i) (k := i + (o + 1)) (fun q h1 h3 he => by
        by_cases hqi : q = i
        · rw [hqi, List.getElem?_eq_getElem his] at he
          exact hne0 (Option.some.inj he)
        · refine hob2 (q - (i + 1)) (by omega) ?_
          rw [List.getElem?_take, if_pos (by omega), List.getElem?_drop, show i + 1 + (q - (i + 1)) = q by omega]
          exact he) hno
      have hwo1 : IntKind.i64.wrap ((o : Int) + 1) = ((o + 1 : Nat) : Int) := wrap_of (by omega) (by omega)
      have hwo2 : IntKind.i64.wrap ((i : Int) + ((o + 1 : Nat) : Int)) = ((i + (o + 1) : Nat) : Int) := wrap_of (by omega) (by omega)
      have hp1 : (i + (o + 1)) + 1 < s.length := by omega
      have hwi : IntKind.i64.wrap (((i + (o + 1)) : Nat) + 1 : Int) = (((i + (o + 1)) + 1 : Nat) : Int) := wrap_of (by omega) (by omega)
      have hwn : IntKind.i64.wrap ((((i + (o + 1)) : Nat) : Int) + (t.length : Int)) = (((i + (o + 1)) + t.length : Nat) : Int) := wrap_of (by omega) (by omega)
      have q1 : (i + (o + 1)) ≤ (i + (o + 1)) + t.length := by omega
      have q2 : (i + (o + 1)) + t.length ≤ cap := by omega
      have q3 : (i + (o + 1)) + t.length - ((i + (o + 1))) = t.length := by omega
      have hpart := bytes_part hc ho hgN (show (i + (o + 1)) ≤ (i + (o + 1)) + t.length by omega) (by omega)
      rw [q3] at hpart
      have heq := c_bytes_Equal M _ y _ t hpart hy
      rw [sy] at heq
      have h2t := hit_two (s := s) (t := t) (i := (i + (o + 1))) h2 (by omega)
      have hwf : IntKind.i64.wrap ((f : Int) + 1) = ((f + 1 : Nat) : Int) := wrap_of (by omega) (by omega)
      have hwk : IntKind.i64.wrap ((((i + (o + 1)) : Nat) : Int) + 1) = (((i + (o + 1)) + 1 : Nat) : Int) := wrap_of (by omega) (by omega)
      simp +contextual only [vq, vc, ve, vv, vn, vl, ↓reduceIte, Nat.reduceEqDiff, Nat.reduceAdd, Nat.reduceMul, Nat.reduceSub, Nat.reduceLeDiff, Nat.reduceLT, Nat.reduceBEq, Nat.reduceBNe, reduceCtorEq, Int.reduceBEq, Int.reduceBNe, Int.reduceLT, Int.reduceLE, Int.reduceEq, Int.reduceToNat, Int.reduceAdd, Int.reduceSub, Int.reduceNeg, A0, A1, A5, AC0, AC1, AI, AT, hlt2, his, hit, k0, hwi0, q5, q6, callR_val hib, hfb, hwo1, hwo2, hp1, hat _ hp1, hwi, hwk, hwn, q1, q2, q3, callR_val heq, h2t]
      refine br2_mk (fun hq => ?_) (fun hq => ?_)
      · have hq : (s.drop ((i + (o + 1)))).take t.length = t := by simpa using hq
        have e : Go.Lib.index s t = (((i + (o + 1)) : Nat) : Int) := index_at (by omega) hq hno2
        simp +contextual only [vq, vc, ve, vv, vn, vl, ↓reduceIte, Nat.reduceEqDiff, Nat.reduceAdd, Nat.reduceMul, Nat.reduceSub, Nat.reduceLeDiff, Nat.reduceLT, Nat.reduceBEq, Nat.reduceBNe, reduceCtorEq, Int.reduceBEq, Int.reduceBNe, Int.reduceLT, Int.reduceLE, Int.reduceEq, Int.reduceToNat, Int.reduceAdd, Int.reduceSub, Int.reduceNeg, AI, hl0, e]
      have hq : (s.drop ((i + (o + 1)))).take t.length ≠ t := by simpa using hq
      have hno3 : ∀ j, j < (i + (o + 1)) + 1 → (s.drop j).take t.length ≠ t := fun j hj => by
        by_cases hji : j = (i + (o + 1))
        · rw [hji]; exact hq
        · exact hno2 j (by omega)
      have hdrop := bytes_drop hc ho hgN (show (i + (o + 1)) + 1 ≤ s.length by omega)
      have hx1 := index_from (s := s) (t := t) (i := (i + (o + 1)) + 1) (by omega) hno3
      have hroom := Go.Lib.index_room (s.drop ((i + (o + 1)) + 1)) t
      have hge := Go.Lib.index_ge (s.drop ((i + (o + 1)) + 1)) t
      rw [List.length_drop] at hroom
      have q4 : (i + (o + 1)) + 1 ≤ s.length := by omega
      have hsh : shiftE .shr .i64 (((i + (o + 1)) + 1 : Nat) : Int) 4 = some (.int .i64 ((((i + (o + 1)) + 1) / 16 : Nat) : Int)) := by
        simp only [shiftE]
        rw [if_neg (by decide), show (2 : Int) ^ (min (Int.toNat 4) IntKind.i64.bits) = 16 by decide, Int.fdiv_eq_ediv_of_nonneg _ (by decide)]
        rfl
      have hw4 : IntKind.i64.wrap (4 + ((((i + (o + 1)) + 1) / 16 : Nat) : Int)) = ((4 + ((i + (o + 1)) + 1) / 16 : Nat) : Int) := wrap_of (by omega) (by omega)
      simp +contextual only [vq, vc, ve, vv, vn, vl, ↓reduceIte, Nat.reduceEqDiff, Nat.reduceAdd, Nat.reduceMul, Nat.reduceSub, Nat.reduceLeDiff, Nat.reduceLT, Nat.reduceBEq, Nat.reduceBNe, reduceCtorEq, Int.reduceBEq, Int.reduceBNe, Int.reduceLT, Int.reduceLE, Int.reduceEq, Int.reduceToNat, Int.reduceAdd, Int.reduceSub, Int.reduceNeg, A0, A1, AI, AF, AT, hwf, hwk, hsh, hw4]
      refine br2_mk (fun hcu => ?_) (fun hcu => ?_)
      · simp only [Bool.and_eq_true, decide_eq_true_eq] at hcu
        have hix := c_bytealg_IndexRabinKarp_bytes M _ y _ t hdrop hy h2 (by rw [List.length_drop]; omega) (by rw [List.length_drop]; omega)
        rw [sy] at hix
        by_cases hr : Go.Lib.index (s.drop ((i + (o + 1)) + 1)) t < 0
        · rw [if_pos hr] at hx1
          simp +contextual only [vq, vc, ve, vv, vn, vl, ↓reduceIte, Nat.reduceEqDiff, Nat.reduceAdd, Nat.reduceMul, Nat.reduceSub, Nat.reduceLeDiff, Nat.reduceLT, Nat.reduceBEq, Nat.reduceBNe, reduceCtorEq, Int.reduceBEq, Int.reduceBNe, Int.reduceLT, Int.reduceLE, Int.reduceEq, Int.reduceToNat, Int.reduceAdd, Int.reduceSub, Int.reduceNeg, A0, A1, q4, hc, callR_val hix, hr, hl0, hx1]
        · rw [if_neg hr] at hx1
          have hroom := hroom (by omega)
          have hwr : IntKind.i64.wrap ((((i + (o + 1)) + 1 : Nat) : Int) + Go.Lib.index (s.drop ((i + (o + 1)) + 1)) t) = Go.Lib.index s t := by rw [wrap64 (by omega) (by omega), hx1]
          simp +contextual only [vq, vc, ve, vv, vn, vl, ↓reduceIte, Nat.reduceEqDiff, Nat.reduceAdd, Nat.reduceMul, Nat.reduceSub, Nat.reduceLeDiff, Nat.reduceLT, Nat.reduceBEq, Nat.reduceBNe, reduceCtorEq, Int.reduceBEq, Int.reduceBNe, Int.reduceLT, Int.reduceLE, Int.reduceEq, Int.reduceToNat, Int.reduceAdd, Int.reduceSub, Int.reduceNeg, A0, A1, q4, hc, callR_val hix, hr, hwr, hl0]
      · simp +contextual only [vq, vc, ve, vv, vn, vl, ↓reduceIte, Nat.reduceEqDiff, Nat.reduceAdd, Nat.reduceMul, Nat.reduceSub, Nat.reduceLeDiff, Nat.reduceLT, Nat.reduceBEq, Nat.reduceBNe, reduceCtorEq, Int.reduceBEq, Int.reduceBNe, Int.reduceLT, Int.reduceLE, Int.reduceEq, Int.reduceToNat, Int.reduceAdd, Int.reduceSub, Int.reduceNeg]
        exact again2 hJ (s.length + 1 - ((i + (o + 1)) + 1)) (by omega) ⟨(i + (o + 1)) + 1, f + 1, _, rfl, rfl, by omega, by omega, by simp +contextual only [vq, vc, ve, vv, vn, vl, ↓reduceIte, Nat.reduceEqDiff, Nat.reduceAdd, Nat.reduceMul, Nat.reduceSub, Nat.reduceLeDiff, Nat.reduceLT, Nat.reduceBEq, Nat.reduceBNe, reduceCtorEq, Int.reduceBEq, Int.reduceBNe, Int.reduceLT, Int.reduceLE, Int.reduceEq, Int.reduceToNat, Int.reduceAdd, Int.reduceSub, Int.reduceNeg, A0], by simp +contextual only [vq, vc, ve, vv, vn, vl, ↓reduceIte, Nat.reduceEqDiff, Nat.reduceAdd, Nat.reduceMul, Nat.reduceSub, Nat.reduceLeDiff, Nat.reduceLT, Nat.reduceBEq, Nat.reduceBNe, reduceCtorEq, Int.reduceBEq, Int.reduceBNe, Int.reduceLT, Int.reduceLE, Int.reduceEq, Int.reduceToNat, Int.reduceAdd, Int.reduceSub, Int.reduceNeg, A1], by simp +contextual only [vq, vc, ve, vv, vn, vl, ↓reduceIte, Nat.reduceEqDiff, Nat.reduceAdd, Nat.reduceMul, Nat.reduceSub, Nat.reduceLeDiff, Nat.reduceLT, Nat.reduceBEq, Nat.reduceBNe, reduceCtorEq, Int.reduceBEq, Int.reduceBNe, Int.reduceLT, Int.reduceLE, Int.reduceEq, Int.reduceToNat, Int.reduceAdd, Int.reduceSub, Int.reduceNeg, A5], by simp +contextual only [vq, vc, ve, vv, vn, vl, ↓reduceIte, Nat.reduceEqDiff, Nat.reduceAdd, Nat.reduceMul, Nat.reduceSub, Nat.reduceLeDiff, Nat.reduceLT, Nat.reduceBEq, Nat.reduceBNe, reduceCtorEq, Int.reduceBEq, Int.reduceBNe, Int.reduceLT, Int.reduceLE, Int.reduceEq, Int.reduceToNat, Int.reduceAdd, Int.reduceSub, Int.reduceNeg, AC0], by simp +contextual only [vq, vc, ve, vv, vn, vl, ↓reduceIte, Nat.reduceEqDiff, Nat.reduceAdd, Nat.reduceMul, Nat.reduceSub, Nat.reduceLeDiff, Nat.reduceLT, Nat.reduceBEq, Nat.reduceBNe, reduceCtorEq, Int.reduceBEq, Int.reduceBNe, Int.reduceLT, Int.reduceLE, Int.reduceEq, Int.reduceToNat, Int.reduceAdd, Int.reduceSub, Int.reduceNeg, AC1], by simp +contextual only [vq, vc, ve, vv, vn, vl, ↓reduceIte, Nat.reduceEqDiff, Nat.reduceAdd, Nat.reduceMul, Nat.reduceSub, Nat.reduceLeDiff, Nat.reduceLT, Nat.reduceBEq, Nat.reduceBNe, reduceCtorEq, Int.reduceBEq, Int.reduceBNe, Int.reduceLT, Int.reduceLE, Int.reduceEq, Int.reduceToNat, Int.reduceAdd, Int.reduceSub, Int.reduceNeg], by simp +contextual only [vq, vc, ve, vv, vn, vl, ↓reduceIte, Nat.reduceEqDiff, Nat.reduceAdd, Nat.reduceMul, Nat.reduceSub, Nat.reduceLeDiff, Nat.reduceLT, Nat.reduceBEq, Nat.reduceBNe, reduceCtorEq, Int.reduceBEq, Int.reduceBNe, Int.reduceLT, Int.reduceLE, Int.reduceEq, Int.reduceToNat, Int.reduceAdd, Int.reduceSub, Int.reduceNeg, AT], by simp +contextual only [vq, vc, ve, vv, vn, vl, ↓reduceIte, Nat.reduceEqDiff, Nat.reduceAdd, Nat.reduceMul, Nat.reduceSub, Nat.reduceLeDiff, Nat.reduceLT, Nat.reduceBEq, Nat.reduceBNe, reduceCtorEq, Int.reduceBEq, Int.reduceBNe, Int.reduceLT, Int.reduceLE, Int.reduceEq, Int.reduceToNat, Int.reduceAdd, Int.reduceSub, Int.reduceNeg], hno3⟩
end Go.Proofs.YtjlpfijbnflknaaDoor.bounceParts

namespace Go.Proofs.YtjlpfijbnflknaaDoor.bounceParts
open Go.Ev hiding Comes
variable [GG]

/-- What is cut off ahead of a part, and behind it. -/
theorem c_bytes_Cut (m : Mem) (x y : EV) (s t : List UInt8) (hx : BytesAt G m x s) (hy : BytesAt G m y t) (h2 : 2 ≤ t.length) (hN : s.length ≤ 4000000000) :
    (Go.Lib.index s t < 0 ∧ Go.Ev.Comes T G f_bytes_Cut [x, y] m none ⟨.val (.tuple [x, .slice none 0 0 0, .bool false]), m, none⟩) ∨
    ∃ (i : Nat) (u v : EV), Go.Lib.index s t = i ∧ i + t.length ≤ s.length ∧ Go.Ev.Comes T G f_bytes_Cut [x, y] m none ⟨.val (.tuple [u, v, .bool true]), m, none⟩ ∧ ∀ m', BytesAt G m' x s → BytesAt G m' u (s.take i) ∧ BytesAt G m' v (s.drop (i + t.length)) := by
  have hroom := Go.Lib.index_room s t
  by_cases hi : Go.Lib.index s t < 0
  · refine .inl ⟨hi, comes2 T_bytes_Cut rfl fun M hg hlen hlow => ?_⟩
    have hl0 : m.bl.length ≤ M.low := by omega
    have hcI := c_bytes_Index M x y s t (hx.grown hg) (hy.grown hg) h2 hN
    have k1 : ¬ 0 ≤ Go.Lib.index s t := by omega
    simp only [F_bytes_Cut]
    rcases hx with ⟨rfl, _⟩ | ⟨a, cap, rfl, _, ho, _⟩
    · simp +contextual only [vq, vc, ve, vv, vn, vl, ↓reduceIte, Nat.reduceEqDiff, Nat.reduceAdd, Nat.reduceMul, Nat.reduceSub, Nat.reduceLeDiff, Nat.reduceLT, Nat.reduceBEq, Nat.reduceBNe, reduceCtorEq, Int.reduceBEq, Int.reduceBNe, Int.reduceLT, Int.reduceLE, Int.reduceEq, Int.reduceToNat, Int.reduceAdd, Int.reduceSub, Int.reduceNeg, callR_val hcI, k1, hl0]
    · simp +contextual only [vq, vc, ve, vv, vn, vl, ↓reduceIte, Nat.reduceEqDiff, Nat.reduceAdd, Nat.reduceMul, Nat.reduceSub, Nat.reduceLeDiff, Nat.reduceLT, Nat.reduceBEq, Nat.reduceBNe, reduceCtorEq, Int.reduceBEq, Int.reduceBNe, Int.reduceLT, Int.reduceLE, Int.reduceEq, Int.reduceToNat, Int.reduceAdd, Int.reduceSub, Int.reduceNeg, callR_val hcI, k1, hl0, ho]
  · obtain ⟨i, hie⟩ : ∃ i : Nat, Go.Lib.index s t = i := ⟨(Go.Lib.index s t).toNat, by omega⟩
    have hroom := hroom (by omega)
    rw [hie] at hroom
    have hb : i + t.length ≤ s.length := by omega
    have hs0 : s ≠ [] := by rintro rfl; simp at hb; simp [hb] at h2
    obtain ⟨a, cap, rfl, hc, ho, hg0, _⟩ := hx.pos hs0
    refine .inr ⟨i, .slice (some a) i cap 1, .slice (some (a.plus (i + t.length))) (s.length - (i + t.length)) (cap - (i + t.length)) 1, hie, hb, comes2 T_bytes_Cut rfl fun M hg hlen hlow => ?_, fun m' hx' => ?_⟩
    rotate_left
    · obtain ⟨a', cap', e', hc', ho', hg', _⟩ := hx'.pos hs0
      cases e'
      exact ⟨bytes_take hc' ho' hg' (by omega), bytes_drop hc' ho' hg' hb⟩
    have hl0 : m.bl.length ≤ M.low := by omega
    have hcI := c_bytes_Index M _ y s t (hx.grown hg) (hy.grown hg) h2 hN
    rw [hie] at hcI
    obtain ⟨a2, c2, e2, sy⟩ := hy.slice
    have hw : IntKind.i64.wrap ((i : Int) + (t.length : Int)) = ((i + t.length : Nat) : Int) := wrap_of (by omega) (by omega)
    have k2 : i ≤ cap := by omega
    rw [sy] at hcI ⊢
    simp only [F_bytes_Cut]
    simp +contextual only [vq, vc, ve, vv, vn, vl, ↓reduceIte, Nat.reduceEqDiff, Nat.reduceAdd, Nat.reduceMul, Nat.reduceSub, Nat.reduceLeDiff, Nat.reduceLT, Nat.reduceBEq, Nat.reduceBNe, reduceCtorEq, Int.reduceBEq, Int.reduceBNe, Int.reduceLT, Int.reduceLE, Int.reduceEq, Int.reduceToNat, Int.reduceAdd, Int.reduceSub, Int.reduceNeg, callR_val hcI, hl0, hw, k2, hb, hc, ho]
end Go.Proofs.YtjlpfijbnflknaaDoor.bounceParts

namespace Go.Proofs.YtjlpfijbnflknaaDoor.bounceParts
open Go.Ev hiding Comes

/-- A digit. -/
def dg (n : Nat) : UInt8 := UInt8.ofNat (48 + n % 10)
/-- A number's digits. -/
def dec (n : Nat) : List UInt8 := if h : n < 10 then [dg n] else dec (n / 10) ++ [dg n]
termination_by n
decreasing_by omega
theorem dec_lt {n : Nat} (h : n < 10) : dec n = [dg n] := by rw [dec, dif_pos h]
theorem dec_ge {n : Nat} (h : ¬ n < 10) : dec n = dec (n / 10) ++ [dg n] := by rw [dec, dif_neg h]
theorem dec_len : ∀ (k n : Nat), n < 10 ^ (k + 1) → (dec n).length ≤ k + 1
  | 0, n, h => by rw [dec_lt (by simpa using h)]; simp
  | k + 1, n, h => by
    by_cases h9 : n < 10
    · rw [dec_lt h9]; simp
    · rw [dec_ge h9, List.length_append]
      have := dec_len k (n / 10) (by rw [Nat.pow_succ] at h; omega)
      simp only [List.length_singleton]
      omega
theorem dec_pos (n : Nat) : 1 ≤ (dec n).length := by
  by_cases h : n < 10
  · rw [dec_lt h]; simp
  · rw [dec_ge h]; simp
theorem dg_toNat (n : Nat) : (dg n).toNat = 48 + n % 10 := by
  simp only [dg, UInt8.toNat_ofNat']
  omega
/-- A number's digits, but for some that are laid already. -/
theorem dec_step {n0 q : Nat} {w : List UInt8} (h : dec n0 = dec q ++ w) : (q < 10 → dec n0 = dg q :: w) ∧ (¬ q < 10 → dec n0 = dec (q / 10) ++ (dg q :: w)) := by
  constructor
  · intro h9
    rw [h, dec_lt h9]
    rfl
  · intro h9
    rw [h, dec_ge h9, List.append_assoc]
    rfl
end Go.Proofs.YtjlpfijbnflknaaDoor.bounceParts

namespace Go.Proofs.YtjlpfijbnflknaaDoor.bounceParts
open Go.Ev hiding Comes

def isDg (b : UInt8) : Bool := decide (48 ≤ b.toNat) && decide (b.toNat ≤ 57)
theorem dec_digits (n : Nat) : ∀ b ∈ dec n, isDg b = true := by
  induction n using Nat.strongRecOn with
  | _ n ih =>
    have hd : isDg (dg n) = true := by
      have := dg_toNat n
      simp [isDg]; omega
    by_cases h : n < 10
    · rw [dec_lt h]
      intro b hb
      simp at hb
      rw [hb]; exact hd
    · rw [dec_ge h]
      intro b hb
      rcases List.mem_append.1 hb with hb | hb
      · exact ih _ (by omega) b hb
      · simp at hb
        rw [hb]; exact hd
/-- What digits are worth. -/
def worth (w : List UInt8) : Nat := w.foldl (fun a b => 10 * a + (b.toNat - 48)) 0
theorem worth_dec (n : Nat) : worth (dec n) = n := by
  induction n using Nat.strongRecOn with
  | _ n ih =>
    by_cases h : n < 10
    · rw [dec_lt h]
      have := dg_toNat n
      simp [worth]; omega
    · rw [dec_ge h]
      have h1 := ih (n / 10) (by omega)
      have := dg_toNat n
      unfold worth at h1 ⊢
      rw [List.foldl_append, h1]
      simp only [List.foldl_cons, List.foldl_nil]
      omega
theorem dec_inj {a b : Nat} (h : dec a = dec b) : a = b := by rw [← worth_dec a, h, worth_dec b]
theorem dg_of {b : UInt8} (h : isDg b = true) {a : Nat} : dg (10 * a + (b.toNat - 48)) = b := by
  simp [isDg] at h
  apply UInt8.toNat_inj.1
  rw [dg_toNat]
  omega
theorem dec_snoc {a : Nat} {b : UInt8} (ha : a ≠ 0) (h : isDg b = true) : dec (10 * a + (b.toNat - 48)) = dec a ++ [b] := by
  rw [dec_ge (by omega), dg_of h]
  congr 2
  simp [isDg] at h
  omega
theorem dec_one {b : UInt8} (h : isDg b = true) : dec (b.toNat - 48) = [b] := by
  have h' := h
  simp [isDg] at h'
  rw [dec_lt (by omega)]
  have := dg_of (a := 0) h
  rw [Nat.mul_zero, Nat.zero_add] at this
  rw [this]
theorem dec_zero : dec 0 = [48] := by rw [dec_lt (by omega)]; rfl
theorem dec_len18 {n : Nat} (h : n < 10 ^ 18) : (dec n).length ≤ 18 := dec_len 17 n h

/-- The numbers of a part's head, of f digits and fewer, behind digits worth a. -/
def pfx : Nat → Nat → List UInt8 → List Nat
  | 0, _, _ => []
  | _ + 1, _, [] => []
  | f + 1, a, b :: r => if isDg b then (10 * a + (b.toNat - 48)) :: (if 10 * a + (b.toNat - 48) = 0 then [] else pfx f (10 * a + (b.toNat - 48)) r) else []
theorem pfx_mem : ∀ (f a : Nat) (r : List UInt8) (n : Nat), a ≠ 0 → (n ∈ pfx f a r ↔ ∃ w, w <+: r ∧ 1 ≤ w.length ∧ w.length ≤ f ∧ dec n = dec a ++ w)
  | 0, a, r, n, ha => by
    simp only [pfx, List.not_mem_nil, false_iff]
    rintro ⟨w, _, h1, h2, _⟩
    omega
  | f + 1, a, [], n, ha => by
    simp only [pfx, List.not_mem_nil, false_iff]
    rintro ⟨w, h, h1, _⟩
    rw [List.prefix_nil.1 h] at h1
    simp at h1
  | f + 1, a, b :: r, n, ha => by
    by_cases hb : isDg b = true
    · have hz : 10 * a + (b.toNat - 48) ≠ 0 := by omega
      simp only [pfx, hb, if_true, hz, if_false, List.mem_cons]
      rw [pfx_mem f _ r n hz, dec_snoc ha hb]
      constructor
      · rintro (rfl | ⟨w, h, h1, h2, h3⟩)
        · exact ⟨[b], by simp, by simp, by simp, dec_snoc ha hb⟩
        · exact ⟨b :: w, by simpa using h, by simp, by simp; omega, by rw [h3]; simp⟩
      · rintro ⟨w, h, h1, h2, h3⟩
        cases w with
        | nil => simp at h1
        | cons c w =>
          obtain ⟨rfl, hr⟩ := List.cons_prefix_cons.1 h
          cases w with
          | nil =>
            refine .inl (dec_inj ?_)
            rw [h3, dec_snoc ha hb]
          | cons d w => exact .inr ⟨d :: w, hr, by simp, by simp at h2 ⊢; omega, by rw [h3]; simp⟩
    · simp only [pfx, hb, if_false, Bool.false_eq_true, List.not_mem_nil, false_iff]
      rintro ⟨w, h, h1, h2, h3⟩
      cases w with
      | nil => simp at h1
      | cons c w =>
        obtain ⟨rfl, hr⟩ := List.cons_prefix_cons.1 h
        exact hb (dec_digits n c (by rw [h3]; simp))
theorem pfx_head {r : List UInt8} {n : Nat} (hn : n < 10 ^ 18) : n ∈ pfx 18 0 r ↔ dec n <+: r := by
  have hl := dec_len18 hn
  have hp := dec_pos n
  cases r with
  | nil =>
    simp only [pfx, List.not_mem_nil, false_iff, List.prefix_nil]
    intro h
    rw [h] at hp
    simp at hp
  | cons b r =>
    by_cases hb : isDg b = true
    · simp only [pfx, hb, if_true, Nat.mul_zero, Nat.zero_add, List.mem_cons]
      have h1 := dec_one hb
      constructor
      · rintro (h | h)
        · rw [h, h1]
          simp
        · by_cases hz : b.toNat - 48 = 0
          · rw [if_pos hz] at h
            cases h
          · rw [if_neg hz, pfx_mem _ _ _ _ hz] at h
            obtain ⟨w, hw, _, _, h3⟩ := h
            rw [h3, h1]
            simpa using hw
      · intro h
        cases hd : dec n with
        | nil => rw [hd] at hp; simp at hp
        | cons c w =>
          rw [hd] at h
          obtain ⟨rfl, hr⟩ := List.cons_prefix_cons.1 h
          cases w with
          | nil => exact .inl (dec_inj (by rw [hd, h1]))
          | cons d w =>
            have hz : c.toNat - 48 ≠ 0 := fun hz => by
              have hge : ¬ n < 10 := fun hlt => by rw [dec_lt hlt] at hd; simp at hd
              have : ∀ k, k ≠ 0 → ∀ x y, dec k = x :: y → x.toNat - 48 ≠ 0 := by
                intro k
                induction k using Nat.strongRecOn with
                | _ k ih =>
                  intro hk x y he
                  by_cases hlt : k < 10
                  · rw [dec_lt hlt] at he
                    simp at he
                    have := dg_toNat k
                    rw [← he.1]
                    omega
                  · rw [dec_ge hlt] at he
                    cases hq : dec (k / 10) with
                    | nil => have := dec_pos (k / 10); rw [hq] at this; simp at this
                    | cons p q =>
                      rw [hq] at he
                      simp at he
                      rw [← he.1]
                      exact ih (k / 10) (by omega) (by omega) p q hq
              exact this n (by omega) c _ hd hz
            refine .inr ?_
            rw [if_neg hz, pfx_mem _ _ _ _ hz]
            rw [hd] at hl
            exact ⟨d :: w, hr, by simp, by simp at hl ⊢; omega, by rw [hd, h1]; simp⟩
    · simp only [pfx, hb, if_false, Bool.false_eq_true, List.not_mem_nil, false_iff]
      intro h
      cases hd : dec n with
      | nil => rw [hd] at hp; simp at hp
      | cons c w =>
        rw [hd] at h
        obtain ⟨rfl, hr⟩ := List.cons_prefix_cons.1 h
        exact hb (dec_digits n c (by rw [hd]; simp))
theorem pfx_len : ∀ (f a : Nat) (r : List UInt8), (pfx f a r).length ≤ f
  | 0, a, r => by simp [pfx]
  | f + 1, a, [] => by simp [pfx]
  | f + 1, a, b :: r => by
    simp only [pfx]
    split
    · split
      · simp
      · have := pfx_len f (10 * a + (b.toNat - 48)) r
        simp; omega
    · simp
theorem first_occ {s t : List UInt8} (q : Nat) (hq : q ≤ s.length) (ho : (s.drop q).take t.length = t) : ∃ i, i ≤ s.length ∧ (s.drop i).take t.length = t ∧ ∀ j, j < i → (s.drop j).take t.length ≠ t := by
  induction q using Nat.strongRecOn with
  | _ k ih =>
    by_cases hq' : ∃ q, q < k ∧ (s.drop q).take t.length = t
    · obtain ⟨q, hq1, hq2⟩ := hq'
      exact ih q hq1 (by omega) hq2
    · exact ⟨k, hq, ho, fun j hj hx => hq' ⟨j, hj, hx⟩⟩
theorem index_is {s t : List UInt8} {i : Nat} (h : Go.Lib.index s t = i) : (s.drop i).take t.length = t ∧ ∀ j, j < i → (s.drop j).take t.length ≠ t := by
  by_cases hx : ∃ q, q ≤ s.length ∧ (s.drop q).take t.length = t
  · obtain ⟨q, hq, ho⟩ := hx
    obtain ⟨k, h1, h2, h3⟩ := first_occ q hq ho
    have := index_at h1 h2 h3
    have : k = i := by omega
    subst this
    exact ⟨h2, h3⟩
  · have := index_no (s := s) (t := t) fun j hj hq => hx ⟨j, by omega, hq⟩
    omega
/-- Does a text stand in bytes? -/
def inB (s t : List UInt8) : Bool := (List.range (s.length + 1 - t.length)).any fun i => (s.drop i).take t.length == t
theorem inB_iff {s t : List UInt8} (ht : t.length ≠ 0) : inB s t = true ↔ ∃ i, (s.drop i).take t.length = t := by
  unfold inB
  rw [List.any_eq_true]
  constructor
  · rintro ⟨i, _, h⟩
    exact ⟨i, by simpa using h⟩
  · rintro ⟨i, h⟩
    have := congrArg List.length h
    simp at this
    exact ⟨i, by simp only [List.mem_range]; omega, by simpa using h⟩
/-- The numbers of bytes: of what stands behind each mark. -/
def marks : Nat → List UInt8 → List Nat
  | 0, _ => []
  | f + 1, s => if Go.Lib.index s [61, 95] < 0 then [] else pfx 18 0 (s.drop ((Go.Lib.index s [61, 95]).toNat + 2)) ++ marks f (s.drop ((Go.Lib.index s [61, 95]).toNat + 2))
theorem marks_len : ∀ (f : Nat) (s : List UInt8), (marks f s).length ≤ 18 * f
  | 0, s => by simp [marks]
  | f + 1, s => by
    simp only [marks]
    split
    · simp
    · have h1 := marks_len f (s.drop ((Go.Lib.index s [61, 95]).toNat + 2))
      have h2 := pfx_len 18 0 (s.drop ((Go.Lib.index s [61, 95]).toNat + 2))
      simp only [List.length_append]
      omega
theorem take_pref {s p : List UInt8} : s.take p.length = p ↔ p <+: s := by
  constructor
  · intro h
    rw [← h]
    exact List.take_prefix _ _
  · intro h
    exact (List.prefix_iff_eq_take.1 h).symm
theorem marks_mem : ∀ (f : Nat) (s : List UInt8) (n : Nat), s.length ≤ f → n < 10 ^ 18 → (n ∈ marks f s ↔ ∃ i, 61 :: 95 :: dec n <+: s.drop i)
  | 0, s, n, hs, hn => by
    have : s = [] := List.length_eq_zero_iff.1 (by omega)
    subst this
    simp [marks]
  | f + 1, s, n, hs, hn => by
    simp only [marks]
    by_cases hi : Go.Lib.index s [61, 95] < 0
    · rw [if_pos hi]
      simp only [List.not_mem_nil, false_iff]
      rintro ⟨i, h⟩
      have : (s.drop i).take 2 = [61, 95] := by
        obtain ⟨w, hw⟩ := h
        rw [← hw]; rfl
      have hl : i ≤ s.length := by
        have := congrArg List.length this
        simp at this
        omega
      have := first_occ (t := [61, 95]) i hl this
      obtain ⟨i, h1, h2, h3⟩ := this
      have := Go.Ev.index_at (t := [61, 95]) h1 h2 h3
      omega
    · rw [if_neg hi]
      obtain ⟨i, hie⟩ : ∃ i : Nat, Go.Lib.index s [61, 95] = i := ⟨(Go.Lib.index s [61, 95]).toNat, by omega⟩
      rw [hie, Int.toNat_natCast]
      have hroom := Go.Lib.index_room s [61, 95] (by omega)
      rw [hie] at hroom
      simp only [List.length_cons, List.length_nil] at hroom
      obtain ⟨hat, hno⟩ := index_is (t := [61, 95]) hie
      simp only [List.length_cons, List.length_nil, Nat.zero_add, Nat.reduceAdd] at hat hno
      rw [List.mem_append, pfx_head hn, marks_mem f _ n (by simp; omega) hn]
      have hsp : s.drop i = 61 :: 95 :: s.drop (i + 2) := by
        rw [← List.take_append_drop 2 (s.drop i), hat, List.drop_drop]; rfl
      constructor
      · rintro (h | ⟨j, h⟩)
        · exact ⟨i, by rw [hsp]; simpa using h⟩
        · exact ⟨i + 2 + j, by rwa [List.drop_drop] at h⟩
      · rintro ⟨j, h⟩
        have h2 : (s.drop j).take 2 = [61, 95] := by
          obtain ⟨w, hw⟩ := h
          rw [← hw]; rfl
        have hj : i ≤ j := by
          by_cases hlt : j < i
          · exact absurd h2 (hno j hlt)
          · omega
        by_cases h0 : j = i
        · subst h0
          rw [hsp] at h
          exact .inl (by simpa using h)
        · by_cases h1 : j = i + 1
          · subst h1
            have : s.drop (i + 1) = 95 :: s.drop (i + 2) := by
              rw [← List.drop_drop, hsp]; rfl
            rw [this] at h2
            simp at h2
          · exact .inr ⟨j - (i + 2), by rwa [List.drop_drop, show i + 2 + (j - (i + 2)) = j by omega]⟩
theorem marks_inB {s : List UInt8} {n : Nat} (hn : n < 10 ^ 18) : (n ∈ marks s.length s) ↔ inB s (61 :: 95 :: dec n) = true := by
  rw [marks_mem _ _ _ (Nat.le_refl _) hn, inB_iff (by simp)]
  exact ⟨fun ⟨i, h⟩ => ⟨i, take_pref.2 h⟩, fun ⟨i, h⟩ => ⟨i, take_pref.1 h⟩⟩
/-- Whole numbers that fill a list are no more than it. -/
theorem holes : ∀ (n : Nat) (L : List Nat), (∀ k, k < n → k ∈ L) → n ≤ L.length
  | 0, _, _ => Nat.zero_le _
  | n + 1, L, h => by
    have h1 := holes n (L.erase n) fun k hk => (List.mem_erase_of_ne (by omega)).2 (h k (by omega))
    have h2 := h n (by omega)
    have h3 := List.length_erase_of_mem h2
    have h4 : 0 < L.length := List.length_pos_of_mem h2
    omega
/-- The least free number. -/
theorem least (L : List Nat) : ∃ n, n ≤ L.length ∧ n ∉ L ∧ ∀ k, k < n → k ∈ L := by
  have hx : ∃ n, n ∉ L := by
    by_cases h : ∃ n, n ∉ L
    · exact h
    · have := holes (L.length + 1) L fun k _ => by
        by_cases hk : k ∈ L
        · exact hk
        · exact absurd ⟨k, hk⟩ h
      omega
  obtain ⟨n, hn⟩ := hx
  have : ∃ n, n ∉ L ∧ ∀ k, k < n → k ∈ L := by
    induction n using Nat.strongRecOn with
    | _ n ih =>
      by_cases hq : ∃ k, k < n ∧ k ∉ L
      · obtain ⟨k, h1, h2⟩ := hq
        exact ih k h1 h2
      · exact ⟨n, hn, fun k hk => by
          by_cases hm : k ∈ L
          · exact hm
          · exact absurd ⟨k, hk, hm⟩ hq⟩
  obtain ⟨n, h1, h2⟩ := this
  exact ⟨n, holes n L h2, h1, h2⟩
end Go.Proofs.YtjlpfijbnflknaaDoor.bounceParts

namespace Go.Proofs.YtjlpfijbnflknaaDoor.bounceParts
open Go.Ev hiding Comes
variable [GG]

theorem flat_get {esz : Nat} : ∀ {cs : List (List EV)} {i : Nat} {r : List EV}, (∀ c ∈ cs, c.length = esz) → cs[i]? = some r → Sub cs.flatten (i * esz) esz r
  | [], _, _, _, h => by simp at h
  | c :: cs, 0, r, hl, h => by
    simp at h
    subst h
    have := hl c (List.mem_cons_self ..)
    rw [Nat.zero_mul]
    exact sub_here this
  | c :: cs, i + 1, r, hl, h => by
    have h1 := hl c (List.mem_cons_self ..)
    have := flat_get (cs := cs) (fun c hc => hl c (List.mem_cons_of_mem _ hc)) (by simpa using h)
    rw [Nat.succ_mul, Nat.add_comm]
    exact sub_skip h1 this

theorem tab_get {N : Mem} {i : Nat} (hi : i < 35) : N.getN G ⟨.glob g_octet_stretches, i * 3⟩ 3 = some (tabCells (tab[i]'hi)) := by
  have h : Sub tabRow (i * 3) 3 (tabCells (tab[i]'hi)) := flat_get (by
    intro c hc
    obtain ⟨x, _, rfl⟩ := List.mem_map.1 hc
    rfl) (by rw [List.getElem?_map, List.getElem?_eq_getElem (show i < tab.length from hi)]; rfl)
  obtain ⟨h1, h2⟩ := h
  unfold Mem.getN
  rw [if_neg (by omega)]
  have hr : N.row G (.glob g_octet_stretches) = some tabRow := g_tab
  simp only [hr, Option.bind_some, if_pos h1, h2]

theorem octet_Is_of (m : Mem) (c : Int) (b : Nat) (h3 : (c == 5 || c == 10) = true → ∀ m, Go.Ev.Comes T G f_octet_Is [.int .i64 3, .int .u8 (b : Nat)] m none ⟨.val (.bool (isT 3 b)), m, none⟩) :
    Go.Ev.Comes T G f_octet_Is [.int .i64 c, .int .u8 (b : Nat)] m none ⟨.val (.bool (isF c b)), m, none⟩ := by
  refine comes2 T_octet_Is rfl fun M hg hlen hlow => ?_
  simp only [F_octet_Is]
  simp +contextual only [vq, vc, ve, vv, vn, vl, ↓reduceIte, Nat.reduceEqDiff, Nat.reduceAdd, Nat.reduceMul, Nat.reduceSub, Nat.reduceLeDiff, Nat.reduceLT, Nat.reduceBEq, Nat.reduceBNe, reduceCtorEq, Int.reduceBEq, Int.reduceBNe, Int.reduceLT, Int.reduceLE, Int.reduceEq, Int.reduceToNat, Int.reduceAdd, Int.reduceSub, Int.reduceNeg]
  refine loop2 (fun n st => ∃ i A N, st = ⟨A, N, [], none⟩ ∧ Grown M N ∧ m.bl.length ≤ N.low ∧ n = 35 - i ∧ i ≤ 35 ∧ A 0 = .int .i64 c ∧ A 1 = .int .u8 (b : Nat) ∧ A 7 = .int .i64 (i : Nat) ∧ (tab.take i).any (hit c b) = false) 35 ⟨0, _, _, rfl, Grown.rfl', by omega, by omega, by omega, by simp +contextual only [vq, vc, ve, vv, vn, vl, ↓reduceIte, Nat.reduceEqDiff, Nat.reduceAdd, Nat.reduceMul, Nat.reduceSub, Nat.reduceLeDiff, Nat.reduceLT, Nat.reduceBEq, Nat.reduceBNe, reduceCtorEq, Int.reduceBEq, Int.reduceBNe, Int.reduceLT, Int.reduceLE, Int.reduceEq, Int.reduceToNat, Int.reduceAdd, Int.reduceSub, Int.reduceNeg], by simp +contextual only [vq, vc, ve, vv, vn, vl, ↓reduceIte, Nat.reduceEqDiff, Nat.reduceAdd, Nat.reduceMul, Nat.reduceSub, Nat.reduceLeDiff, Nat.reduceLT, Nat.reduceBEq, Nat.reduceBNe, reduceCtorEq, Int.reduceBEq, Int.reduceBNe, Int.reduceLT, Int.reduceLE, Int.reduceEq, Int.reduceToNat, Int.reduceAdd, Int.reduceSub, Int.reduceNeg], by simp +contextual only [vq, vc, ve, vv, vn, vl, ↓reduceIte, Nat.reduceEqDiff, Nat.reduceAdd, Nat.reduceMul, Nat.reduceSub, Nat.reduceLeDiff, Nat.reduceLT, Nat.reduceBEq, Nat.reduceBNe, reduceCtorEq, Int.reduceBEq, Int.reduceBNe, Int.reduceLT, Int.reduceLE, Int.reduceEq, Int.reduceToNat, Int.reduceAdd, Int.reduceSub, Int.reduceNeg]; rfl, rfl⟩ fun J hJ n st hI => ?_
  obtain ⟨i, A, N, rfl, gN, lN, rfl, hi, A0, A1, A7, hno⟩ := hI
  have e35 : ((i : Int) < 35) = (i < 35) := propext ⟨fun h => by omega, fun h => by omega⟩
  simp +contextual only [vq, vc, ve, vv, vn, vl, ↓reduceIte, Nat.reduceEqDiff, Nat.reduceAdd, Nat.reduceMul, Nat.reduceSub, Nat.reduceLeDiff, Nat.reduceLT, Nat.reduceBEq, Nat.reduceBNe, reduceCtorEq, Int.reduceBEq, Int.reduceBNe, Int.reduceLT, Int.reduceLE, Int.reduceEq, Int.reduceToNat, Int.reduceAdd, Int.reduceSub, Int.reduceNeg, A7, e35]
  refine br2_dec (fun hlt => ?_) (fun hge => ?_)
  · have e35' : ((i : Int) < ((35 : Nat) : Int)) = True := eq_true (by omega)
    simp +contextual only [vq, vc, ve, vv, vn, vl, ↓reduceIte, Nat.reduceEqDiff, Nat.reduceAdd, Nat.reduceMul, Nat.reduceSub, Nat.reduceLeDiff, Nat.reduceLT, Nat.reduceBEq, Nat.reduceBNe, reduceCtorEq, Int.reduceBEq, Int.reduceBNe, Int.reduceLT, Int.reduceLE, Int.reduceEq, Int.reduceToNat, Int.reduceAdd, Int.reduceSub, Int.reduceNeg, A7, e35', tab_get hlt, tabCells]
    refine new_mk fun N1 e1 => ?_
    obtain ⟨N2, p2, g2, R2, l2, w2⟩ := put_new e1 (cs := tabCells (tab[i]'hlt)) rfl
    simp only [tabCells] at p2 R2
    simp +contextual only [vq, vc, ve, vv, vn, vl, ↓reduceIte, Nat.reduceEqDiff, Nat.reduceAdd, Nat.reduceMul, Nat.reduceSub, Nat.reduceLeDiff, Nat.reduceLT, Nat.reduceBEq, Nat.reduceBNe, reduceCtorEq, Int.reduceBEq, Int.reduceBNe, Int.reduceLT, Int.reduceLE, Int.reduceEq, Int.reduceToNat, Int.reduceAdd, Int.reduceSub, Int.reduceNeg, p2, R2.get (G := G), A0, A1]
    have hh : ((tab[i]'hlt).1 == c && decide ((tab[i]'hlt).2.1 ≤ b) && decide (b ≤ (tab[i]'hlt).2.2)) = hit c b (tab[i]'hlt) := by simp only [hit, Bool.and_assoc]
    have hlo : m.bl.length ≤ N2.low := by have := gN.le; omega
    have ht : (tab.take (i + 1)).any (hit c b) = hit c b (tab[i]'hlt) := by rw [List.take_succ_eq_append_getElem hlt, List.any_append, hno]; simp
    rw [hh]
    refine br2_mk (fun hk => ?_) (fun hk => ?_)
    · have ha : isF c b = true := by
        have : isT c b = true := List.any_eq_true.2 ⟨_, List.getElem_mem hlt, hk⟩
        simp [isF, this]
      simp +contextual only [vq, vc, ve, vv, vn, vl, ↓reduceIte, Nat.reduceEqDiff, Nat.reduceAdd, Nat.reduceMul, Nat.reduceSub, Nat.reduceLeDiff, Nat.reduceLT, Nat.reduceBEq, Nat.reduceBNe, reduceCtorEq, Int.reduceBEq, Int.reduceBNe, Int.reduceLT, Int.reduceLE, Int.reduceEq, Int.reduceToNat, Int.reduceAdd, Int.reduceSub, Int.reduceNeg, ha, hlo]
    · simp +contextual only [vq, vc, ve, vv, vn, vl, ↓reduceIte, Nat.reduceEqDiff, Nat.reduceAdd, Nat.reduceMul, Nat.reduceSub, Nat.reduceLeDiff, Nat.reduceLT, Nat.reduceBEq, Nat.reduceBNe, reduceCtorEq, Int.reduceBEq, Int.reduceBNe, Int.reduceLT, Int.reduceLE, Int.reduceEq, Int.reduceToNat, Int.reduceAdd, Int.reduceSub, Int.reduceNeg, A7, wsucc hlt (by omega)]
      exact again2 hJ (35 - (i + 1)) (by omega) ⟨i + 1, _, _, rfl, gN.trans g2, hlo, rfl, by omega, by simp +contextual only [vq, vc, ve, vv, vn, vl, ↓reduceIte, Nat.reduceEqDiff, Nat.reduceAdd, Nat.reduceMul, Nat.reduceSub, Nat.reduceLeDiff, Nat.reduceLT, Nat.reduceBEq, Nat.reduceBNe, reduceCtorEq, Int.reduceBEq, Int.reduceBNe, Int.reduceLT, Int.reduceLE, Int.reduceEq, Int.reduceToNat, Int.reduceAdd, Int.reduceSub, Int.reduceNeg, A0], by simp +contextual only [vq, vc, ve, vv, vn, vl, ↓reduceIte, Nat.reduceEqDiff, Nat.reduceAdd, Nat.reduceMul, Nat.reduceSub, Nat.reduceLeDiff, Nat.reduceLT, Nat.reduceBEq, Nat.reduceBNe, reduceCtorEq, Int.reduceBEq, Int.reduceBNe, Int.reduceLT, Int.reduceLE, Int.reduceEq, Int.reduceToNat, Int.reduceAdd, Int.reduceSub, Int.reduceNeg, A1], by simp +contextual only [vq, vc, ve, vv, vn, vl, ↓reduceIte, Nat.reduceEqDiff, Nat.reduceAdd, Nat.reduceMul, Nat.reduceSub, Nat.reduceLeDiff, Nat.reduceLT, Nat.reduceBEq, Nat.reduceBNe, reduceCtorEq, Int.reduceBEq, Int.reduceBNe, Int.reduceLT, Int.reduceLE, Int.reduceEq, Int.reduceToNat, Int.reduceAdd, Int.reduceSub, Int.reduceNeg], by rw [ht, hk]⟩
  · have hie : i = 35 := by omega
    subst hie
    have hno' : isT c b = false := by rw [← hno]; rfl
    have hc : isF c b = ((c == 5 || c == 10) && isT 3 b) := by simp [isF, hno']
    cases hq : (c == 5 || c == 10) with
    | true =>
      rw [hq] at hc
      simp +contextual only [vq, vc, ve, vv, vn, vl, ↓reduceIte, Nat.reduceEqDiff, Nat.reduceAdd, Nat.reduceMul, Nat.reduceSub, Nat.reduceLeDiff, Nat.reduceLT, Nat.reduceBEq, Nat.reduceBNe, reduceCtorEq, Int.reduceBEq, Int.reduceBNe, Int.reduceLT, Int.reduceLE, Int.reduceEq, Int.reduceToNat, Int.reduceAdd, Int.reduceSub, Int.reduceNeg, A0, A1, hq, callR_val (h3 hq _), lN, hc]
    | false =>
      rw [hq] at hc
      simp +contextual only [vq, vc, ve, vv, vn, vl, ↓reduceIte, Nat.reduceEqDiff, Nat.reduceAdd, Nat.reduceMul, Nat.reduceSub, Nat.reduceLeDiff, Nat.reduceLT, Nat.reduceBEq, Nat.reduceBNe, reduceCtorEq, Int.reduceBEq, Int.reduceBNe, Int.reduceLT, Int.reduceLE, Int.reduceEq, Int.reduceToNat, Int.reduceAdd, Int.reduceSub, Int.reduceNeg, A0, A1, hq, lN, hc]

theorem c_octet_Is (m : Mem) (c : Int) (b : Nat) : Go.Ev.Comes T G f_octet_Is [.int .i64 c, .int .u8 (b : Nat)] m none ⟨.val (.bool (isF c b)), m, none⟩ := by
  refine octet_Is_of m c b fun _ m => ?_
  have h := octet_Is_of m 3 b (fun h => by simp at h)
  have e : isF 3 b = isT 3 b := by simp [isF]
  rw [e] at h
  exact h
end Go.Proofs.YtjlpfijbnflknaaDoor.bounceParts

namespace Go.Proofs.YtjlpfijbnflknaaDoor.bounceParts
open Go.Ev hiding Comes
variable [GG]

theorem sa_row {m : Mem} {b o n esz l : Nat} {k : IntKind} {cs : List EV} (h : RowIs m b cs) (hc : o + n * esz ≤ cs.length) (hl : l ≤ n) : saE G m n esz (.ptr (some ⟨.mem b 0, o⟩)) (some (.int k (l : Nat))) none = some (.slice (some ⟨.mem b 0, o + l * esz⟩) (n - l) (n - l) esz) := by
  have h : m.bl[b]? = some (.cells cs 0 true) := h
  simp only [saE, bndE, Int.natCast_nonneg, if_true, Int.toNat_natCast, Mem.row, h, Nat.le_refl, true_and, hl, hc, and_self, Ad.plus]
theorem c_octet_Decimal (m : Mem) (n : Nat) (hn : n < 18446744073709551616) : Go.Ev.Comes T G f_octet_Decimal [.int .u64 n] m none ⟨.val (.str (dec n)), m, none⟩ := by
  refine comes2 T_octet_Decimal rfl fun M hg hlen hlow => ?_
  simp only [F_octet_Decimal]
  simp +contextual only [vq, vc, ve, vv, vn, vl, ↓reduceIte, Nat.reduceEqDiff, Nat.reduceAdd, Nat.reduceMul, Nat.reduceSub, Nat.reduceLeDiff, Nat.reduceLT, Nat.reduceBEq, Nat.reduceBNe, reduceCtorEq, Int.reduceBEq, Int.reduceBNe, Int.reduceLT, Int.reduceLE, Int.reduceEq, Int.reduceToNat, Int.reduceAdd, Int.reduceSub, Int.reduceNeg]
  refine new_mk fun M1 e1 => ?_
  have l1 : M1.low = M.low := by rw [e1]; rfl
  have R1 : RowIs M1 M.bl.length (List.replicate 20 (.int .u8 0)) := by rw [e1]; exact row_push _ _
  have hd20 := dec_len 19 n (by omega)
  simp +contextual only [vq, vc, ve, vv, vn, vl, ↓reduceIte, Nat.reduceEqDiff, Nat.reduceAdd, Nat.reduceMul, Nat.reduceSub, Nat.reduceLeDiff, Nat.reduceLT, Nat.reduceBEq, Nat.reduceBNe, reduceCtorEq, Int.reduceBEq, Int.reduceBNe, Int.reduceLT, Int.reduceLE, Int.reduceEq, Int.reduceToNat, Int.reduceAdd, Int.reduceSub, Int.reduceNeg]
  refine loop2 (fun r st => ∃ (A : Fr) (N : Mem) (pre : List EV) (w : List UInt8), st = ⟨A, N, [], none⟩ ∧ m.bl.length ≤ N.low ∧ A 0 = .int .u64 (r : Nat) ∧ A 3 = .ptr (some ⟨.mem M.bl.length 0, 0⟩) ∧ A 4 = .int .i64 (pre.length : Nat) ∧ dec n = dec r ++ w ∧ pre.length + w.length = 20 ∧ RowIs N M.bl.length (pre ++ bytesE w) ∧ r < 18446744073709551616) n ⟨_, M1, List.replicate 20 (.int .u8 0), [], rfl, by omega, by simp +contextual only [vq, vc, ve, vv, vn, vl, ↓reduceIte, Nat.reduceEqDiff, Nat.reduceAdd, Nat.reduceMul, Nat.reduceSub, Nat.reduceLeDiff, Nat.reduceLT, Nat.reduceBEq, Nat.reduceBNe, reduceCtorEq, Int.reduceBEq, Int.reduceBNe, Int.reduceLT, Int.reduceLE, Int.reduceEq, Int.reduceToNat, Int.reduceAdd, Int.reduceSub, Int.reduceNeg], by simp +contextual only [vq, vc, ve, vv, vn, vl, ↓reduceIte, Nat.reduceEqDiff, Nat.reduceAdd, Nat.reduceMul, Nat.reduceSub, Nat.reduceLeDiff, Nat.reduceLT, Nat.reduceBEq, Nat.reduceBNe, reduceCtorEq, Int.reduceBEq, Int.reduceBNe, Int.reduceLT, Int.reduceLE, Int.reduceEq, Int.reduceToNat, Int.reduceAdd, Int.reduceSub, Int.reduceNeg], by simp +contextual only [vq, vc, ve, vv, vn, vl, ↓reduceIte, Nat.reduceEqDiff, Nat.reduceAdd, Nat.reduceMul, Nat.reduceSub, Nat.reduceLeDiff, Nat.reduceLT, Nat.reduceBEq, Nat.reduceBNe, reduceCtorEq, Int.reduceBEq, Int.reduceBNe, Int.reduceLT, Int.reduceLE, Int.reduceEq, Int.reduceToNat, Int.reduceAdd, Int.reduceSub, Int.reduceNeg]; rfl, by simp, by simp, by simpa [bytesE] using R1, hn⟩ fun J hJ r st hI => ?_
  obtain ⟨A, N, pre, w, rfl, lN, A0, A3, A4, hd, hp, RN, hr⟩ := hI
  have hdl := dec_pos r
  have hdn : (dec r).length + w.length ≤ 20 := by rw [← List.length_append, ← hd]; exact hd20
  have hp0 : 0 < pre.length := by omega
  have w1 : IntKind.i64.wrap ((pre.length : Int) - 1) = ((pre.length - 1 : Nat) : Int) := wrap_of (by omega) (by omega)
  have r1 : ((r : Nat) : Int).tmod 10 = ((r % 10 : Nat) : Int) := rfl
  have r2 : ((r : Nat) : Int).tdiv 10 = ((r / 10 : Nat) : Int) := rfl
  have w2 : IntKind.u8.wrap ((r % 10 : Nat) : Int) = ((r % 10 : Nat) : Int) := wrap8 (by omega) (by omega)
  have w3 : IntKind.u8.wrap (48 + ((r % 10 : Nat) : Int)) = ((dg r).toNat : Int) := by rw [wrap8 (by omega) (by omega), dg_toNat]; omega
  have w4 : IntKind.u64.wrap ((r / 10 : Nat) : Int) = ((r / 10 : Nat) : Int) := wrapu64 (by omega) (by omega)
  have i20 : (((pre.length - 1 : Nat) : Int) < ((20 : Nat) : Int)) = True := eq_true (by omega)
  obtain ⟨N1, p1, R1', t1, lw⟩ := put1_row (off := pre.length - 1) (v := .int .u8 (dg r).toNat) RN (by simp; omega)
  have hset : (pre ++ bytesE w).set (pre.length - 1) (.int .u8 (dg r).toNat) = pre.take (pre.length - 1) ++ bytesE (dg r :: w) := by
    rw [List.set_eq_take_append_cons_drop, if_pos (by simp; omega), List.take_append_of_le_length (by omega), show pre.length - 1 + 1 = pre.length by omega, List.drop_left]
    rfl
  rw [hset] at R1'
  have hl1 : m.bl.length ≤ N1.low := by omega
  have hlt : (pre.take (pre.length - 1)).length = pre.length - 1 := by simp
  obtain ⟨s1, s2⟩ := dec_step hd
  by_cases h9 : r < 10
  · have hz : (r / 10 == 0) = true := by simp; omega
    have hsl := sa_row (l := pre.length - 1) (k := .i64) (n := 20) (esz := 1) (o := 0) R1' (by simp [bytesE]; omega) (by omega)
    have hg1 : N1.getN G ⟨.mem M.bl.length 0, pre.length - 1⟩ (20 - (pre.length - 1)) = some (bytesE (dg r :: w)) := getN_row R1' ⟨by simp [bytesE]; omega, by rw [List.drop_left' hlt, List.take_of_length_le (by simp [bytesE]; omega)]⟩
    simp +contextual only [vq, vc, ve, vv, vn, vl, ↓reduceIte, Nat.reduceEqDiff, Nat.reduceAdd, Nat.reduceMul, Nat.reduceSub, Nat.reduceLeDiff, Nat.reduceLT, Nat.reduceBEq, Nat.reduceBNe, reduceCtorEq, Int.reduceBEq, Int.reduceBNe, Int.reduceLT, Int.reduceLE, Int.reduceEq, Int.reduceToNat, Int.reduceAdd, Int.reduceSub, Int.reduceNeg, A0, A3, A4, w1, r1, r2, w2, w3, w4, i20, p1, hz, hsl, hg1, hl1, s1 h9]
  · have hz : (r / 10 == 0) = false := by simp; omega
    simp +contextual only [vq, vc, ve, vv, vn, vl, ↓reduceIte, Nat.reduceEqDiff, Nat.reduceAdd, Nat.reduceMul, Nat.reduceSub, Nat.reduceLeDiff, Nat.reduceLT, Nat.reduceBEq, Nat.reduceBNe, reduceCtorEq, Int.reduceBEq, Int.reduceBNe, Int.reduceLT, Int.reduceLE, Int.reduceEq, Int.reduceToNat, Int.reduceAdd, Int.reduceSub, Int.reduceNeg, A0, A3, A4, w1, r1, r2, w2, w3, w4, i20, p1, hz]
    exact again2 hJ (r / 10) (by omega) ⟨_, N1, pre.take (pre.length - 1), dg r :: w, rfl, hl1, by simp +contextual only [vq, vc, ve, vv, vn, vl, ↓reduceIte, Nat.reduceEqDiff, Nat.reduceAdd, Nat.reduceMul, Nat.reduceSub, Nat.reduceLeDiff, Nat.reduceLT, Nat.reduceBEq, Nat.reduceBNe, reduceCtorEq, Int.reduceBEq, Int.reduceBNe, Int.reduceLT, Int.reduceLE, Int.reduceEq, Int.reduceToNat, Int.reduceAdd, Int.reduceSub, Int.reduceNeg], by simp +contextual only [vq, vc, ve, vv, vn, vl, ↓reduceIte, Nat.reduceEqDiff, Nat.reduceAdd, Nat.reduceMul, Nat.reduceSub, Nat.reduceLeDiff, Nat.reduceLT, Nat.reduceBEq, Nat.reduceBNe, reduceCtorEq, Int.reduceBEq, Int.reduceBNe, Int.reduceLT, Int.reduceLE, Int.reduceEq, Int.reduceToNat, Int.reduceAdd, Int.reduceSub, Int.reduceNeg, A3], by simp +contextual only [vq, vc, ve, vv, vn, vl, ↓reduceIte, Nat.reduceEqDiff, Nat.reduceAdd, Nat.reduceMul, Nat.reduceSub, Nat.reduceLeDiff, Nat.reduceLT, Nat.reduceBEq, Nat.reduceBNe, reduceCtorEq, Int.reduceBEq, Int.reduceBNe, Int.reduceLT, Int.reduceLE, Int.reduceEq, Int.reduceToNat, Int.reduceAdd, Int.reduceSub, Int.reduceNeg, hlt], s2 h9, by simp; omega, R1', by omega⟩
end Go.Proofs.YtjlpfijbnflknaaDoor.bounceParts
