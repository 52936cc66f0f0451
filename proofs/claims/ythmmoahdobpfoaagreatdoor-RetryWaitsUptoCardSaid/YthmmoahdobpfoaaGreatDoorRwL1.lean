/- A part of the proof of the statement that this claim hands in: what single functions come to. There are no conditions. -/
import Derived.Test.YthmmoahdobpfoaaGreatDoorRwFuns
import Derived.KernelRfl
import Derived.Test.YthmmoahdobpfoaaGreatDoorXEv1
import Derived.Test.YthmmoahdobpfoaaGreatDoorXEv29
import Derived.Test.YthmmoahdobpfoaaGreatDoorXEv30
import Derived.Test.YthmmoahdobpfoaaGreatDoorXEv34
import Derived.Test.YthmmoahdobpfoaaGreatDoorXEv35
set_option linter.unusedVariables false
set_option linter.unusedSimpArgs false
set_option linter.unusedSectionVars false
namespace Go.Proofs.YthmmoahdobpfoaaGreatDoor.retryWaits
open Go.Ev hiding Comes
/-- The table of octet: class, first byte, last byte. -/
def tab : List (Int × Nat × Nat) := [(1, 65, 90), (1, 97, 122), (2, 48, 57), (3, 65, 90), (3, 97, 122), (3, 48, 57), (4, 48, 57), (4, 65, 70), (4, 97, 102), (5, 33, 33), (5, 35, 39), (5, 42, 43), (5, 45, 45), (5, 47, 47), (5, 61, 61), (5, 63, 63), (5, 94, 96), (5, 123, 126), (6, 32, 33), (6, 35, 91), (6, 93, 126), (7, 33, 90), (7, 94, 126), (8, 33, 60), (8, 62, 126), (9, 33, 42), (9, 44, 60), (9, 62, 126), (10, 45, 45), (11, 33, 57), (11, 59, 126), (12, 9, 9), (12, 32, 126), (13, 0, 127), (14, 128, 255)]
def tabCells (x : Int × Nat × Nat) : List EV := [.int .i64 x.1, .int .u8 (x.2.1 : Nat), .int .u8 (x.2.2 : Nat)]
def tabRow : List EV := (tab.map tabCells).flatten
/-- What the package-level variables hold that are read: the table of octet. -/
class GG where
  g : Globs
  tab : g g_octet_stretches = some tabRow
def G [GG] : Globs := GG.g
theorem g_tab [GG] : G g_octet_stretches = some tabRow := GG.tab
def tabG : Globs := fun g => if g = g_octet_stretches then some tabRow else none
instance tabGG : GG := ⟨tabG, if_pos rfl⟩
end Go.Proofs.YthmmoahdobpfoaaGreatDoor.retryWaits

namespace Go.Ev.Flt
open Ieee

/-- A rung's exponent and significand. -/
def ex (r : Nat) : Nat := r / 4503599627370496 - 1
def sg (r : Nat) : Nat := if r < 4503599627370496 then r else 4503599627370496 + r % 4503599627370496
theorem rung_eq (r : Nat) : r = ex r * 4503599627370496 + sg r := by
  unfold ex sg; split <;> omega
theorem sg_lt (r : Nat) : sg r < 9007199254740992 := by
  unfold sg; split <;> omega
theorem sg_ge (r : Nat) : ex r = 0 ∨ 4503599627370496 ≤ sg r := by
  unfold ex sg; split <;> omega

abbrev infR : Nat := 9218868437227405312
theorem read_fin {w : Nat} (h : w % 9223372036854775808 < infR) : double.read w = .number (w / 9223372036854775808 % 2 == 1) (sg (w % 9223372036854775808)) ((ex (w % 9223372036854775808) : Nat) - 1074) := by
  have e1 : double.signWeight = 9223372036854775808 := rfl
  have e2 : double.binade = 4503599627370496 := rfl
  have e3 : double.infRung = infR := rfl
  have e4 : double.leastPlace = -1074 := rfl
  unfold Format.read
  simp only [e1, e2, e3, e4]
  generalize w % 9223372036854775808 = r at h ⊢
  by_cases h1 : r < 4503599627370496
  · rw [if_pos h1]
    have : ex r = 0 := by unfold ex; omega
    rw [this]
    unfold sg
    rw [if_pos h1]
    rfl
  · rw [if_neg h1, if_pos h]
    unfold sg ex
    rw [if_neg h1]
    congr 1
theorem read_inf : double.read infR = .infinity false := by decide +kernel

theorem cmp_lt {a b : Int} (h : a < b) : compare a b = .lt := by rw [Int.compare_eq_lt]; exact h
theorem cmp_gt {a b : Int} (h : b < a) : compare a b = .gt := by rw [Int.compare_eq_gt]; exact h

/-- The order of finite numbers that are not negative is that of their rungs. -/
theorem order_num {a b : Nat} (ha : a < infR) (hb : b < infR) : (Datum.number false (sg a) ((ex a : Nat) - 1074)).order (.number false (sg b) ((ex b : Nat) - 1074)) = some (compare a b) := by
  unfold Datum.order
  simp only [signed, Bool.false_eq_true, if_false, Nat.shiftLeft_eq]
  congr 1
  have ra := rung_eq a
  have rb := rung_eq b
  have la := sg_lt a
  have lb := sg_lt b
  have ga := sg_ge a
  have gb := sg_ge b
  generalize sg a = m at *
  generalize sg b = n at *
  generalize ex a = i at *
  generalize ex b = j at *
  have key : ∀ {i j m n : Nat}, i < j → m < 9007199254740992 → 4503599627370496 ≤ n → m < n * 2 ^ (j - i) := by
    intro i j m n h h1 h2
    have : 2 ^ 1 ≤ 2 ^ (j - i) := Nat.pow_le_pow_right (by decide) (by omega)
    have := Nat.mul_le_mul h2 this
    omega
  rcases Nat.lt_trichotomy i j with h | h | h
  · have e1 : min ((i : Int) - 1074) ((j : Int) - 1074) = (i : Int) - 1074 := by omega
    rw [e1]
    have e2 : ((i : Int) - 1074 - ((i : Int) - 1074)).toNat = 0 := by omega
    have e3 : ((j : Int) - 1074 - ((i : Int) - 1074)).toNat = j - i := by omega
    rw [e2, e3, Nat.pow_zero, Nat.mul_one]
    have hn : 4503599627370496 ≤ n := by omega
    have hk := key h la hn
    have hab : a < b := by omega
    rw [cmp_lt (by exact_mod_cast hk), Nat.compare_eq_lt.2 hab]
  · subst h
    have e1 : min ((i : Int) - 1074) ((i : Int) - 1074) = (i : Int) - 1074 := by omega
    rw [e1]
    have e2 : ((i : Int) - 1074 - ((i : Int) - 1074)).toNat = 0 := by omega
    rw [e2, Nat.pow_zero, Nat.mul_one, Nat.mul_one]
    rcases Nat.lt_trichotomy m n with q | q | q
    · rw [cmp_lt (by exact_mod_cast q), Nat.compare_eq_lt.2 (by omega)]
    · subst q
      have : a = b := by omega
      subst this
      rw [Nat.compare_eq_eq.2 rfl, Int.compare_eq_eq.2 rfl]
    · rw [cmp_gt (by exact_mod_cast q), Nat.compare_eq_gt.2 (by omega)]
  · have e1 : min ((i : Int) - 1074) ((j : Int) - 1074) = (j : Int) - 1074 := by omega
    rw [e1]
    have e2 : ((j : Int) - 1074 - ((j : Int) - 1074)).toNat = 0 := by omega
    have e3 : ((i : Int) - 1074 - ((j : Int) - 1074)).toNat = i - j := by omega
    rw [e2, e3, Nat.pow_zero, Nat.mul_one]
    have hm : 4503599627370496 ≤ m := by omega
    have hk := key h lb hm
    have hab : b < a := by omega
    rw [cmp_gt (by exact_mod_cast hk), Nat.compare_eq_gt.2 hab]

/-- The order of words that are not negative. -/
theorem order_pos {a b : Nat} (ha : a ≤ infR) (hb : b ≤ infR) : double.order a b = some (compare a b) := by
  unfold Format.order
  have ma : a % 9223372036854775808 = a := Nat.mod_eq_of_lt (by unfold infR at ha; omega)
  have mb : b % 9223372036854775808 = b := Nat.mod_eq_of_lt (by unfold infR at hb; omega)
  have na : (a / 9223372036854775808 % 2 == 1) = false := by rw [Nat.div_eq_of_lt (by unfold infR at ha; omega)]; rfl
  have nb : (b / 9223372036854775808 % 2 == 1) = false := by rw [Nat.div_eq_of_lt (by unfold infR at hb; omega)]; rfl
  by_cases h1 : a = infR
  · subst h1
    rw [read_inf]
    by_cases h2 : b = infR
    · subst h2
      rw [read_inf]
      rfl
    · have hb' : b < infR := by omega
      rw [read_fin (by rw [mb]; exact hb'), mb, nb]
      show some (if false = true then Ordering.lt else .gt) = _
      rw [Nat.compare_eq_gt.2 hb']
      rfl
  · have ha' : a < infR := by omega
    rw [read_fin (by rw [ma]; exact ha'), ma, na]
    by_cases h2 : b = infR
    · subst h2
      rw [read_inf]
      show some (if false = true then Ordering.gt else .lt) = _
      rw [Nat.compare_eq_lt.2 ha']
      rfl
    · have hb' : b < infR := by omega
      rw [read_fin (by rw [mb]; exact hb'), mb, nb]
      exact order_num ha' hb'

abbrev oneR : Nat := 4607182418800017408
abbrev sixteenR : Nat := 4625196817309499392

theorem neg_lt_pos {a b : Nat} (h : 0 < b) : -(a : Int) < (b : Int) := by omega
/-- What is between one and sixteen is a rung between theirs. -/
theorem between {g : Nat} (h1 : (double.order g oneR == some .gt || double.order g oneR == some .eq) = true) (h2 : (double.order g sixteenR == some .lt || double.order g sixteenR == some .eq) = true) :
    double.read g = .number false (sg (g % 9223372036854775808)) ((ex (g % 9223372036854775808) : Nat) - 1074) ∧ oneR ≤ g % 9223372036854775808 ∧ g % 9223372036854775808 ≤ sixteenR := by
  have k1 : double.read oneR = .number false (sg oneR) ((ex oneR : Nat) - 1074) := by decide +kernel
  have k2 : double.read sixteenR = .number false (sg sixteenR) ((ex sixteenR : Nat) - 1074) := by decide +kernel
  unfold Format.order at h1 h2
  by_cases hf : g % 9223372036854775808 < infR
  · rw [read_fin hf] at h1 h2 ⊢
    rw [k1] at h1
    rw [k2] at h2
    cases hn : (g / 9223372036854775808 % 2 == 1) with
    | true =>
      rw [hn] at h1
      exfalso
      unfold Datum.order at h1
      simp only [signed, if_true, Bool.false_eq_true, if_false] at h1
      rw [cmp_lt (a := _) (b := _)] at h1
      · exact absurd h1 (by decide)
      · refine neg_lt_pos ?_
        show 0 < sg oneR <<< ((ex oneR : Int) - 1074 - min ((ex (g % 9223372036854775808) : Nat) - 1074 : Int) ((ex oneR : Nat) - 1074)).toNat
        rw [Nat.shiftLeft_eq]
        exact Nat.mul_pos (by decide) (Nat.two_pow_pos _)
    | false =>
      rw [hn] at h1 h2
      rw [order_num hf (by decide)] at h1
      rw [order_num hf (by decide)] at h2
      refine ⟨rfl, ?_, ?_⟩
      · rcases Nat.lt_or_ge (g % 9223372036854775808) oneR with q | q
        · rw [Nat.compare_eq_lt.2 q] at h1
          exact absurd h1 (by decide)
        · exact q
      · rcases Nat.lt_or_ge sixteenR (g % 9223372036854775808) with q | q
        · rw [Nat.compare_eq_gt.2 q] at h2
          exact absurd h2 (by decide)
        · exact q
  · exfalso
    unfold Format.read at h1 h2
    have e1 : double.signWeight = 9223372036854775808 := rfl
    have e2 : double.binade = 4503599627370496 := rfl
    have e3 : double.infRung = infR := rfl
    simp only [e1, e2, e3] at h1 h2
    rw [if_neg (by unfold infR at hf; omega), if_neg hf] at h1 h2
    by_cases hi : g % 9223372036854775808 = infR
    · rw [if_pos hi] at h1 h2
      change ((Datum.infinity (g / 9223372036854775808 % 2 == 1)).order (double.read oneR) == some .gt || (Datum.infinity (g / 9223372036854775808 % 2 == 1)).order (double.read oneR) == some .eq) = true at h1
      change ((Datum.infinity (g / 9223372036854775808 % 2 == 1)).order (double.read sixteenR) == some .lt || (Datum.infinity (g / 9223372036854775808 % 2 == 1)).order (double.read sixteenR) == some .eq) = true at h2
      rw [k1] at h1
      rw [k2] at h2
      cases hn : (g / 9223372036854775808 % 2 == 1) with
      | true => rw [hn] at h1; exact absurd h1 (by decide)
      | false => rw [hn] at h2; exact absurd h2 (by decide)
    · rw [if_neg hi] at h1
      exact absurd h1 (by simp [Datum.order])

theorem log2_eq {n k : Nat} (h : 2 ^ k ≤ n) (h' : n < 2 ^ (k + 1)) : n.log2 = k := (Nat.log2_eq_iff (by have := Nat.two_pow_pos k; omega)).2 ⟨h, h'⟩

/-- A product with what is not below one is not below. -/
theorem mul_ge {r g : Nat} (h1 : oneR ≤ r) (h2 : r ≤ infR) (hg : double.read g = .number false (sg (g % 9223372036854775808)) ((ex (g % 9223372036854775808) : Nat) - 1074)) (hg1 : oneR ≤ g % 9223372036854775808) (hg2 : g % 9223372036854775808 ≤ sixteenR) :
    ∃ q, double.mul r g = some q ∧ r ≤ q ∧ q ≤ infR := by
  unfold Format.mul
  rw [hg]
  have e4 : double.leastPlace = -1074 := rfl
  have e2 : double.binade = 4503599627370496 := rfl
  have e3 : double.infRung = infR := rfl
  have e5 : double.fractionBits = 52 := rfl
  generalize g % 9223372036854775808 = s at hg1 hg2
  by_cases hi : r = infR
  · subst hi
    rw [read_inf]
    have : sg s ≠ 0 := by
      have := sg_ge s
      have := rung_eq s
      unfold oneR at hg1
      omega
    refine ⟨infR, ?_, Nat.le_refl _, Nat.le_refl _⟩
    show (if sg s = 0 then none else some (Datum.infinity (false ^^ false))).map double.write = _
    rw [if_neg this]
    rfl
  · have hr : r % 9223372036854775808 = r := Nat.mod_eq_of_lt (by unfold infR at h2; omega)
    have hn : (r / 9223372036854775808 % 2 == 1) = false := by rw [Nat.div_eq_of_lt (by unfold infR at h2; omega)]; rfl
    have hlt : r < infR := by omega
    rw [read_fin (by rw [hr]; exact hlt), hr, hn]
    have ra := rung_eq r
    have rs := rung_eq s
    have la := sg_lt r
    have ls := sg_lt s
    have ga := sg_ge r
    have gs := sg_ge s
    generalize sg r = m at *
    generalize sg s = n at *
    generalize ex r = i at *
    generalize ex s = j at *
    have hm : 4503599627370496 ≤ m := by unfold oneR at h1; omega
    have hnn : 4503599627370496 ≤ n := by unfold oneR at hg1; omega
    have hi' : 1022 ≤ i := by unfold oneR at h1; omega
    have hj : 1022 ≤ j := by unfold oneR at hg1; omega
    show ∃ q, some (double.nearest false (m * n) ((i : Int) - 1074 + ((j : Int) - 1074))) = some q ∧ r ≤ q ∧ q ≤ infR
    refine ⟨_, rfl, ?_⟩
    have hmn0 : 4503599627370496 * 4503599627370496 ≤ m * n := Nat.mul_le_mul hm hnn
    have hmn1 : m * n < 9007199254740992 * 9007199254740992 := Nat.mul_lt_mul'' la ls
    unfold Format.nearest
    rw [if_neg (by omega)]
    simp only [e2, e3, e4, e5, Format.word, Bool.false_eq_true, if_false]
    refine ⟨?_, Nat.min_le_right _ _⟩
    refine Nat.le_min.2 ⟨?_, h2⟩
    have hL : (m * n).log2 = 104 ∨ (m * n).log2 = 105 := by
      rcases Nat.lt_or_ge (m * n) (2 ^ 105) with q | q
      · exact .inl (log2_eq (by omega) q)
      · exact .inr (log2_eq q (by omega))
    have hcut : ∀ d, d ≤ (m * n).log2 + 2 → m * n / 2 ^ d ≤ Toward.even.cut false (m * n) d := by
      intro d hd
      unfold Toward.cut
      rw [Nat.min_eq_left hd]
      simp only [Nat.one_shiftLeft]
      omega
    rcases hL with hL | hL
    · rw [hL] at hcut ⊢
      have e6 : max ((i : Int) - 1074 + ((j : Int) - 1074) + ((104 : Nat) : Int) - ((52 : Nat) : Int)) (-1074) = (i : Int) + (j : Int) - 2096 := by omega
      rw [e6]
      have e7 : ((i : Int) - 1074 + ((j : Int) - 1074) - ((i : Int) + (j : Int) - 2096)).toNat = 0 := by omega
      have e8 : ((i : Int) + (j : Int) - 2096 - ((i : Int) - 1074 + ((j : Int) - 1074))).toNat = 52 := by omega
      have e9 : ((i : Int) + (j : Int) - 2096 - -1074).toNat = i + (j - 1022) := by omega
      rw [e7, e8, e9, Nat.shiftLeft_zero]
      have h52 := hcut 52 (by omega)
      have : m ≤ m * n / 2 ^ 52 := by
        rw [Nat.le_div_iff_mul_le (by decide)]
        exact Nat.mul_le_mul_left m hnn
      have : i ≤ i + (j - 1022) := by omega
      have := Nat.mul_le_mul_right 4503599627370496 this
      omega
    · rw [hL] at hcut ⊢
      have e6 : max ((i : Int) - 1074 + ((j : Int) - 1074) + ((105 : Nat) : Int) - ((52 : Nat) : Int)) (-1074) = (i : Int) + (j : Int) - 2095 := by omega
      rw [e6]
      have e7 : ((i : Int) - 1074 + ((j : Int) - 1074) - ((i : Int) + (j : Int) - 2095)).toNat = 0 := by omega
      have e8 : ((i : Int) + (j : Int) - 2095 - ((i : Int) - 1074 + ((j : Int) - 1074))).toNat = 53 := by omega
      have e9 : ((i : Int) + (j : Int) - 2095 - -1074).toNat = i + 1 + (j - 1022) := by omega
      rw [e7, e8, e9, Nat.shiftLeft_zero]
      have h53 := hcut 53 (by omega)
      have : 4503599627370496 ≤ m * n / 2 ^ 53 := by
        rw [Nat.le_div_iff_mul_le (by decide)]
        have : 2 ^ 105 ≤ m * n := by
          rcases Nat.lt_or_ge (m * n) (2 ^ 105) with q | q
          · have := (Nat.log2_lt (by omega)).2 q
            omega
          · exact q
        omega
      have : i + 1 ≤ i + 1 + (j - 1022) := by omega
      have := Nat.mul_le_mul_right 4503599627370496 this
      omega

/-- The whole part of a number that is not negative, by its rung. -/
def whole (r : Nat) : Nat := if 1074 ≤ ex r then sg r * 2 ^ (ex r - 1074) else sg r / 2 ^ (1074 - ex r)
theorem toInt_whole {r : Nat} (h1 : oneR ≤ r) (h2 : r < infR) : (double.read r).toInt .zero = some (whole r : Nat) := by
  have hr : r % 9223372036854775808 = r := Nat.mod_eq_of_lt (by unfold infR at h2; omega)
  have hn : (r / 9223372036854775808 % 2 == 1) = false := by rw [Nat.div_eq_of_lt (by unfold infR at h2; omega)]; rfl
  rw [read_fin (by rw [hr]; exact h2), hr, hn]
  have ra := rung_eq r
  have la := sg_lt r
  have ga := sg_ge r
  unfold whole
  generalize sg r = m at *
  generalize ex r = i at *
  have hm : 4503599627370496 ≤ m := by unfold oneR at h1; omega
  have hi' : 1022 ≤ i := by unfold oneR at h1; omega
  unfold Datum.toInt Datum.integral
  simp only [signed, Bool.false_eq_true, if_false, Nat.shiftLeft_zero]
  congr 2
  unfold Toward.cut
  simp only [Nat.add_zero, Bool.toNat_false]
  by_cases h : 1074 ≤ i
  · rw [if_pos h]
    have e1 : ((i : Int) - 1074).toNat = i - 1074 := by omega
    have e2 : (-((i : Int) - 1074)).toNat = 0 := by omega
    rw [e1, e2, Nat.zero_min, Nat.shiftLeft_zero, Nat.div_one, Nat.shiftLeft_eq]
  · rw [if_neg h]
    have e1 : ((i : Int) - 1074).toNat = 0 := by omega
    have e2 : (-((i : Int) - 1074)).toNat = 1074 - i := by omega
    rw [e1, e2, Nat.shiftLeft_zero, log2_eq (k := 52) (by omega) (by omega), Nat.min_eq_left (by omega), Nat.one_shiftLeft]

theorem whole_mono {a b : Nat} (h1 : oneR ≤ a) (h : a ≤ b) : whole a ≤ whole b := by
  have ra := rung_eq a
  have la := sg_lt a
  have ga := sg_ge a
  have rb := rung_eq b
  have lb := sg_lt b
  have gb := sg_ge b
  unfold whole
  generalize sg a = m at *
  generalize ex a = i at *
  generalize sg b = n at *
  generalize ex b = j at *
  have hm : 4503599627370496 ≤ m := by unfold oneR at h1; omega
  have hn : 4503599627370496 ≤ n := by unfold oneR at h1; omega
  have hij : i < j ∨ i = j ∧ m ≤ n := by omega
  rcases hij with hij | ⟨rfl, hmn⟩
  · have hmn : m ≤ n * 2 ^ 1 := by omega
    by_cases hi : 1074 ≤ i
    · rw [if_pos hi, if_pos (by omega)]
      have e : 2 ^ (j - 1074) = 2 ^ (j - i - 1) * 2 ^ 1 * 2 ^ (i - 1074) := by rw [show j - 1074 = j - i - 1 + 1 + (i - 1074) by omega, Nat.pow_add, Nat.pow_add]
      rw [e]
      have : n * 2 ^ 1 ≤ n * (2 ^ (j - i - 1) * 2 ^ 1) := Nat.mul_le_mul_left n (Nat.le_mul_of_pos_left _ (Nat.two_pow_pos _))
      rw [← Nat.mul_assoc]
      exact Nat.mul_le_mul_right _ (Nat.le_trans hmn this)
    · rw [if_neg hi]
      by_cases hj : 1074 ≤ j
      · rw [if_pos hj]
        have a1 : m / 2 ^ (1074 - i) ≤ m / 2 ^ 1 := Nat.div_le_div_left (Nat.pow_le_pow_right (by decide) (by omega)) (by decide)
        have a2 : n ≤ n * 2 ^ (j - 1074) := Nat.le_mul_of_pos_right _ (Nat.two_pow_pos _)
        omega
      · rw [if_neg hj]
        have e : 2 ^ (1074 - i) = 2 ^ (j - i) * 2 ^ (1074 - j) := by rw [show 1074 - i = j - i + (1074 - j) by omega, Nat.pow_add]
        rw [e, ← Nat.div_div_eq_div_mul]
        refine Nat.div_le_div_right ?_
        have a1 : m / 2 ^ (j - i) ≤ m / 2 ^ 1 := Nat.div_le_div_left (Nat.pow_le_pow_right (by decide) (by omega)) (by decide)
        omega
  · by_cases hi : 1074 ≤ i
    · rw [if_pos hi, if_pos hi]
      exact Nat.mul_le_mul_right _ hmn
    · rw [if_neg hi, if_neg hi]
      exact Nat.div_le_div_right hmn

theorem ex_of {a k : Nat} (h1 : 4503599627370496 ≤ k) (h2 : k < 9007199254740992) : ex (a * 4503599627370496 + k) = a := by
  unfold ex
  omega
theorem sg_of {a k : Nat} (h1 : 4503599627370496 ≤ k) (h2 : k < 9007199254740992) : sg (a * 4503599627370496 + k) = k := by
  have h := rung_eq (a * 4503599627370496 + k)
  rw [ex_of h1 h2] at h
  omega
theorem bnd {L k : Nat} (hl : L < 53) (h1 : 4503599627370496 ≤ k) (h2 : k < 9007199254740992) : 4607182418800017408 ≤ (L + 1022) * 4503599627370496 + k ∧ (L + 1022) * 4503599627370496 + k < 9218868437227405312 := by omega
theorem pow52 {L : Nat} (hl : L < 53) : 2 ^ L * 2 ^ (52 - L) = 4503599627370496 := by
  rw [← Nat.pow_add, show L + (52 - L) = 52 by omega]
theorem pow53 {L : Nat} (hl : L < 53) : 2 ^ (L + 1) * 2 ^ (52 - L) = 9007199254740992 := by
  rw [← Nat.pow_add, show L + 1 + (52 - L) = 53 by omega]
theorem sub52 {L : Nat} : 1074 - (L + 1022) = 52 - L := by omega
theorem cut_zero (x : Nat) : Toward.even.cut false x 0 = x := by
  unfold Toward.cut
  simp [Nat.mod_one]
/-- A whole number that has room is itself. -/
theorem near_whole {n : Nat} (h1 : 1 ≤ n) (h2 : n < 9007199254740992) : ∃ r, double.write (.number false n 0) = r ∧ oneR ≤ r ∧ r < infR ∧ whole r = n := by
  have e4 : double.leastPlace = -1074 := rfl
  have e2 : double.binade = 4503599627370496 := rfl
  have e3 : double.infRung = infR := rfl
  have e5 : double.fractionBits = 52 := rfl
  refine ⟨_, rfl, ?_⟩
  show oneR ≤ double.nearest false n 0 ∧ double.nearest false n 0 < infR ∧ whole (double.nearest false n 0) = n
  unfold Format.nearest
  rw [if_neg (by omega)]
  simp only [e2, e3, e4, e5, Format.word, Bool.false_eq_true, if_false]
  have hl : n.log2 < 53 := (Nat.log2_lt (by omega)).2 h2
  have b1 := Nat.log2_self_le (n := n) (by omega)
  have b2 := Nat.lt_log2_self (n := n)
  generalize n.log2 = L at *
  have e6 : max ((0 : Int) + (L : Nat) - ((52 : Nat) : Int)) (-1074) = (L : Int) - 52 := by omega
  rw [e6]
  have e7 : ((0 : Int) - ((L : Int) - 52)).toNat = 52 - L := by omega
  have e8 : ((L : Int) - 52 - 0).toNat = 0 := by omega
  have e9 : ((L : Int) - 52 - -1074).toNat = L + 1022 := by omega
  rw [e7, e8, e9]
  have ec : Toward.even.cut false (n <<< (52 - L)) 0 = n * 2 ^ (52 - L) := by
    rw [cut_zero, Nat.shiftLeft_eq]
  rw [ec]
  have p1 := pow52 hl
  have p2 := pow53 hl
  have q1 : 4503599627370496 ≤ n * 2 ^ (52 - L) := by
    have := Nat.mul_le_mul_right (2 ^ (52 - L)) b1
    omega
  have q2 : n * 2 ^ (52 - L) < 9007199254740992 := by
    have := Nat.mul_lt_mul_of_pos_right b2 (Nat.two_pow_pos (52 - L))
    omega
  generalize hk : n * 2 ^ (52 - L) = k at *
  have hmin : min ((L + 1022) * 4503599627370496 + k) infR = (L + 1022) * 4503599627370496 + k := Nat.min_eq_left (by unfold infR; omega)
  rw [hmin]
  obtain ⟨g1, g2⟩ := bnd hl q1 q2
  refine ⟨g1, g2, ?_⟩
  have x1 : ex ((L + 1022) * 4503599627370496 + k) = L + 1022 := ex_of q1 q2
  have x2 : sg ((L + 1022) * 4503599627370496 + k) = k := sg_of q1 q2
  unfold whole
  rw [x1, x2]
  by_cases h : 1074 ≤ L + 1022
  · have : L = 52 := by omega
    subst this
    rw [if_pos h]
    have : n * 2 ^ (52 - 52) = n := by simp
    rw [← hk]
    simp
  · rw [if_neg h, ← hk, sub52, Nat.mul_div_cancel _ (Nat.two_pow_pos _)]
end Go.Ev.Flt

namespace Go.Ev.Flt
open Ieee

def gOk (g : Nat) : Bool := (double.order g oneR == some .gt || double.order g oneR == some .eq) && (double.order g sixteenR == some .lt || double.order g sixteenR == some .eq)
/-- May times be? -/
def okT (F : Int) (g : Nat) (M E : Int) : Bool := decide (1 ≤ F) && (decide (F ≤ M) && (decide (M ≤ 253402300799) && (gOk g && (decide (0 ≤ E) && decide (E ≤ 253402300799)))))
def fl (n : Int) : Nat := FloatKind.nearest .f64 n
/-- The product after some tries. -/
def wv (F : Int) (g : Nat) : Nat → Nat
  | 0 => fl F
  | k + 1 => (double.mul (wv F g k) g).getD 0
def geF (a b : Nat) : Bool := double.order a b == some .gt || double.order a b == some .eq
def intF (w : Nat) : Int := ((double.read w).toInt .zero).getD 0
/-- How long to wait after k products. -/
def waitK (F : Int) (g : Nat) (M : Int) (k : Nat) : Int := if geF (wv F g k) (fl M) = true then M else intF (wv F g k)
def waitV (F : Int) (g : Nat) (M E : Int) (n : Int) : Int := if okT F g M E = true ∧ 1 ≤ n then waitK F g M (min (n - 1) 32).toNat else 0

theorem okT_spec {F : Int} {g : Nat} {M E : Int} (h : okT F g M E = true) : 1 ≤ F ∧ F ≤ M ∧ M ≤ 253402300799 ∧ gOk g = true ∧ 0 ≤ E ∧ E ≤ 253402300799 := by
  simpa only [okT, Bool.and_eq_true, decide_eq_true_eq] using h
theorem fl_spec {n : Int} (h1 : 1 ≤ n) (h2 : n ≤ 253402300799) : oneR ≤ fl n ∧ fl n < infR ∧ whole (fl n) = n.toNat := by
  obtain ⟨r, e, a, b, c⟩ := near_whole (n := n.toNat) (by omega) (by omega)
  have : fl n = r := by
    rw [← e]
    unfold fl FloatKind.nearest FloatKind.encode
    have hd : decide (n < 0) = false := by simp; omega
    have ha : n.natAbs = n.toNat := by omega
    rw [hd, ha]
    rfl
  rw [this]
  exact ⟨a, b, c⟩
theorem geF_iff {a b : Nat} (ha : a ≤ infR) (hb : b ≤ infR) : geF a b = decide (b ≤ a) := by
  unfold geF
  rw [order_pos ha hb]
  rcases Nat.lt_trichotomy a b with h | h | h
  · rw [Nat.compare_eq_lt.2 h]
    simp [Nat.not_le.2 h]
  · rw [Nat.compare_eq_eq.2 h]
    simp [h]
  · rw [Nat.compare_eq_gt.2 h]
    simp [Nat.le_of_lt h]
theorem wv_step {F : Int} {g : Nat} {M E : Int} (h : okT F g M E = true) (k : Nat) : (oneR ≤ wv F g k ∧ wv F g k ≤ infR) ∧ double.mul (wv F g k) g = some (wv F g (k + 1)) ∧ wv F g k ≤ wv F g (k + 1) := by
  obtain ⟨h1, h2, h3, h4, h5, h6⟩ := okT_spec h
  unfold gOk at h4
  simp only [Bool.and_eq_true] at h4
  obtain ⟨r1, r2, r3⟩ := between h4.1 h4.2
  have key : ∀ w, oneR ≤ w → w ≤ infR → double.mul w g = some ((double.mul w g).getD 0) ∧ w ≤ (double.mul w g).getD 0 ∧ (double.mul w g).getD 0 ≤ infR := by
    intro w a b
    obtain ⟨q, e, c, d⟩ := mul_ge a b r1 r2 r3
    rw [e]
    exact ⟨rfl, c, d⟩
  have hw : oneR ≤ wv F g k ∧ wv F g k ≤ infR := by
    induction k with
    | zero =>
      obtain ⟨a, b, _⟩ := fl_spec h1 (by omega)
      exact ⟨a, Nat.le_of_lt b⟩
    | succ k ih =>
      obtain ⟨_, c, d⟩ := key _ ih.1 ih.2
      exact ⟨Nat.le_trans ih.1 c, d⟩
  obtain ⟨a, b, c⟩ := key _ hw.1 hw.2
  exact ⟨hw, a, b⟩
theorem wv_mono {F : Int} {g : Nat} {M E : Int} (h : okT F g M E = true) {j k : Nat} (hjk : j ≤ k) : wv F g j ≤ wv F g k := by
  induction k with
  | zero =>
    have : j = 0 := by omega
    rw [this]
    exact Nat.le_refl _
  | succ k ih =>
    rcases Nat.lt_or_ge k j with q | q
    · have : j = k + 1 := by omega
      rw [this]
      exact Nat.le_refl _
    · exact Nat.le_trans (ih q) (wv_step h k).2.2
theorem intF_eq {w : Nat} (h1 : oneR ≤ w) (h2 : w < infR) : (double.read w).toInt .zero = some (whole w : Nat) ∧ intF w = (whole w : Nat) := by
  have := toInt_whole h1 h2
  exact ⟨this, by unfold intF; rw [this]; rfl⟩
/-- What is told is whole: where it is not the most, it is a number of rungs below infinity. -/
theorem wait_int {F : Int} {g : Nat} {M E : Int} (h : okT F g M E = true) {k : Nat} (hk : geF (wv F g k) (fl M) = false) : (double.read (wv F g k)).toInt .zero = some (intF (wv F g k)) ∧ F ≤ intF (wv F g k) ∧ intF (wv F g k) ≤ M := by
  obtain ⟨h1, h2, h3, h4, h5, h6⟩ := okT_spec h
  obtain ⟨⟨a, b⟩, _, _⟩ := wv_step h k
  obtain ⟨c, d, e⟩ := fl_spec (n := M) (by omega) h3
  obtain ⟨c', d', e'⟩ := fl_spec (n := F) h1 (by omega)
  rw [geF_iff b (by omega)] at hk
  have hlt : wv F g k < fl M := by simpa using hk
  obtain ⟨i1, i2⟩ := intF_eq a (by omega)
  have m1 := whole_mono c' (show fl F ≤ wv F g k from wv_mono (E := E) h (Nat.zero_le k))
  have m2 := whole_mono a (Nat.le_of_lt hlt)
  rw [e'] at m1
  rw [e] at m2
  rw [i2]
  exact ⟨i1, by omega, by omega⟩
theorem waitK_bounds {F : Int} {g : Nat} {M E : Int} (h : okT F g M E = true) (k : Nat) : F ≤ waitK F g M k ∧ waitK F g M k ≤ M := by
  unfold waitK
  obtain ⟨h1, h2, h3, h4, h5, h6⟩ := okT_spec h
  split
  · exact ⟨h2, Int.le_refl _⟩
  · rename_i hk
    exact (wait_int h (by simpa using hk)).2
theorem waitK_mono {F : Int} {g : Nat} {M E : Int} (h : okT F g M E = true) {j k : Nat} (hjk : j ≤ k) : waitK F g M j ≤ waitK F g M k := by
  obtain ⟨h1, h2, h3, h4, h5, h6⟩ := okT_spec h
  obtain ⟨⟨a, b⟩, _, _⟩ := wv_step h j
  obtain ⟨⟨a', b'⟩, _, _⟩ := wv_step h k
  obtain ⟨c, d, e⟩ := fl_spec (n := M) (by omega) h3
  have hm := wv_mono h hjk
  cases hk : geF (wv F g k) (fl M) with
  | true =>
    have : waitK F g M k = M := by unfold waitK; rw [if_pos hk]
    rw [this]
    exact (waitK_bounds h j).2
  | false =>
    have h1' : waitK F g M k = intF (wv F g k) := by unfold waitK; rw [hk]; rfl
    have hj : geF (wv F g j) (fl M) = false := by
      rw [geF_iff b' (by omega)] at hk
      rw [geF_iff b (by omega)]
      have : wv F g k < fl M := by simpa using hk
      simp
      omega
    have h2' : waitK F g M j = intF (wv F g j) := by unfold waitK; rw [hj]; rfl
    rw [geF_iff b' (by omega)] at hk
    have hlt : wv F g k < fl M := by simpa using hk
    rw [h1', h2', (intF_eq a (by omega)).2, (intF_eq a' (by omega)).2]
    have := whole_mono a hm
    omega
theorem waitK_zero {F : Int} {g : Nat} {M E : Int} (h : okT F g M E = true) : waitK F g M 0 = F := by
  obtain ⟨h1, h2, h3, h4, h5, h6⟩ := okT_spec h
  obtain ⟨c, d, e⟩ := fl_spec (n := M) (by omega) h3
  obtain ⟨c', d', e'⟩ := fl_spec (n := F) h1 (by omega)
  unfold waitK
  rw [geF_iff (by show fl F ≤ infR; omega) (by omega)]
  show (if decide (fl M ≤ fl F) = true then M else intF (fl F)) = F
  split
  · rename_i hq
    have hq : fl M ≤ fl F := by simpa using hq
    have := whole_mono c hq
    omega
  · rw [(intF_eq c' d').2]
    omega
end Go.Ev.Flt

namespace Go.Proofs.YthmmoahdobpfoaaGreatDoor.retryWaits
open Go.Ev hiding Comes
open Go.Ev.Flt
variable [GG]

def leF (a b : Nat) : Bool := Ieee.double.order a b == some .lt || Ieee.double.order a b == some .eq
theorem flt_geq {a b : Nat} : binFlt .geq .f64 a b = some (.bool (geF a b)) := rfl
theorem flt_leq {a b : Nat} : binFlt .leq .f64 a b = some (.bool (leF a b)) := rfl
theorem flt_mul {a b r : Nat} (h : Ieee.double.mul a b = some r) : binFlt .mul .f64 a b = some (.flt .f64 r) := by
  show (Ieee.double.mul a b).map (EV.flt FloatKind.f64) = _
  rw [h]
  rfl
theorem flt_of {n : Int} : tofE .f64 (.int .i64 n) = some (.flt .f64 (fl n)) := rfl
theorem flt_int {w : Nat} {n : Int} (h : (Ieee.double.read w).toInt .zero = some n) (h1 : -9223372036854775808 ≤ n) (h2 : n ≤ 9223372036854775807) : frfE .i64 (.flt .f64 w) = some (.int .i64 n) := by
  unfold frfE
  have : (FloatKind.f64.decode w).toInt .zero = some n := h
  simp only [this]
  rw [if_pos ⟨by simpa [IntKind.min, IntKind.signed, IntKind.bits] using h1, by simpa [IntKind.max, IntKind.signed, IntKind.bits] using h2⟩]
/-- Times, as cells. -/
def timesE (f : Int) (g : Nat) (mo ex : Int) : List EV := [.int .i64 f, .flt .f64 g, .int .i64 mo, .int .i64 ex]

theorem okT_eq (f : Int) (g : Nat) (mo ex : Int) : okT f g mo ex = (!(decide (f < 1) || (decide (mo < f) || (decide (253402300799 < mo) || (!(geF g 4607182418800017408 && leF g 4625196817309499392) || !(decide (0 ≤ ex) && decide (ex ≤ 253402300799))))))) := by
  have e1 : decide (1 ≤ f) = !decide (f < 1) := by rw [← decide_not]; congr 1; exact propext ⟨fun h => by omega, fun h => by omega⟩
  have e2 : decide (f ≤ mo) = !decide (mo < f) := by rw [← decide_not]; congr 1; exact propext ⟨fun h => by omega, fun h => by omega⟩
  have e3 : decide (mo ≤ 253402300799) = !decide (253402300799 < mo) := by rw [← decide_not]; congr 1; exact propext ⟨fun h => by omega, fun h => by omega⟩
  have e4 : gOk g = (geF g 4607182418800017408 && leF g 4625196817309499392) := rfl
  unfold okT
  rw [e1, e2, e3, e4]
  simp [Bool.not_or]

theorem c_retry_valid (m : Mem) (n : Int) : Go.Ev.Comes T G f_retry_valid [.int .i64 n] m none ⟨.val (.bool (decide (0 ≤ n) && decide (n ≤ 253402300799))), m, none⟩ := by
  refine comes2 T_retry_valid rfl fun M hg hlen hlow => ?_
  have hl0 : m.bl.length ≤ M.low := by omega
  simp only [F_retry_valid]
  by_cases h1 : 0 ≤ n <;> simp +contextual only [vq, vc, ve, vv, vn, vl, ↓reduceIte, Nat.reduceEqDiff, Nat.reduceAdd, Nat.reduceMul, Nat.reduceSub, Nat.reduceLeDiff, Nat.reduceLT, Nat.reduceBEq, Nat.reduceBNe, reduceCtorEq, Int.reduceBEq, Int.reduceBNe, Int.reduceLT, Int.reduceLE, Int.reduceEq, Int.reduceToNat, Int.reduceAdd, Int.reduceSub, Int.reduceNeg, h1, hl0]
theorem c_r29_may (m : Mem) (n : Int) : Go.Ev.Comes T G f_r29_may [.int .i64 n] m none ⟨.val (.bool (decide (0 ≤ n) && decide (n ≤ 253402300799))), m, none⟩ := by
  refine comes2 T_r29_may rfl fun M hg hlen hlow => ?_
  have hl0 : m.bl.length ≤ M.low := by omega
  simp only [F_r29_may]
  by_cases h1 : 0 ≤ n <;> simp +contextual only [vq, vc, ve, vv, vn, vl, ↓reduceIte, Nat.reduceEqDiff, Nat.reduceAdd, Nat.reduceMul, Nat.reduceSub, Nat.reduceLeDiff, Nat.reduceLT, Nat.reduceBEq, Nat.reduceBNe, reduceCtorEq, Int.reduceBEq, Int.reduceBNe, Int.reduceLT, Int.reduceLE, Int.reduceEq, Int.reduceToNat, Int.reduceAdd, Int.reduceSub, Int.reduceNeg, h1, hl0]

theorem c_retry_Check (m : Mem) (f : Int) (g : Nat) (mo ex : Int) : Go.Ev.Comes T G f_retry_Check [.agg (timesE f g mo ex)] m none ⟨.val (.int .i64 (if okT f g mo ex = true then 0 else 2)), m, none⟩ := by
  refine comes2 T_retry_Check rfl fun M hg hlen hlow => ?_
  have hl0 : m.bl.length ≤ M.low := by omega
  have hok := okT_eq f g mo ex
  simp only [F_retry_Check, timesE]
  simp +contextual only [vq, vc, ve, vv, vn, vl, ↓reduceIte, Nat.reduceEqDiff, Nat.reduceAdd, Nat.reduceMul, Nat.reduceSub, Nat.reduceLeDiff, Nat.reduceLT, Nat.reduceBEq, Nat.reduceBNe, reduceCtorEq, Int.reduceBEq, Int.reduceBNe, Int.reduceLT, Int.reduceLE, Int.reduceEq, Int.reduceToNat, Int.reduceAdd, Int.reduceSub, Int.reduceNeg]
  refine new_mk fun M1 e1 => ?_
  have l1 : m.bl.length ≤ M1.low := by rw [e1]; exact hl0
  have R1 : RowIs M1 M.bl.length [.int .i64 f, .flt .f64 g, .int .i64 mo, .int .i64 ex] := by rw [e1]; exact row_push _ _
  by_cases a1 : f < 1
  · have hok : okT f g mo ex = false := by rw [hok]; simp [a1]
    simp +contextual only [vq, vc, ve, vv, vn, vl, ↓reduceIte, Nat.reduceEqDiff, Nat.reduceAdd, Nat.reduceMul, Nat.reduceSub, Nat.reduceLeDiff, Nat.reduceLT, Nat.reduceBEq, Nat.reduceBNe, reduceCtorEq, Int.reduceBEq, Int.reduceBNe, Int.reduceLT, Int.reduceLE, Int.reduceEq, Int.reduceToNat, Int.reduceAdd, Int.reduceSub, Int.reduceNeg, R1.get (G := G), a1, hok, l1]
  by_cases a2 : mo < f
  · have hok : okT f g mo ex = false := by rw [hok]; simp [a2]
    simp +contextual only [vq, vc, ve, vv, vn, vl, ↓reduceIte, Nat.reduceEqDiff, Nat.reduceAdd, Nat.reduceMul, Nat.reduceSub, Nat.reduceLeDiff, Nat.reduceLT, Nat.reduceBEq, Nat.reduceBNe, reduceCtorEq, Int.reduceBEq, Int.reduceBNe, Int.reduceLT, Int.reduceLE, Int.reduceEq, Int.reduceToNat, Int.reduceAdd, Int.reduceSub, Int.reduceNeg, R1.get (G := G), a1, a2, hok, l1]
  by_cases a3 : 253402300799 < mo
  · have hok : okT f g mo ex = false := by rw [hok]; simp [a3]
    simp +contextual only [vq, vc, ve, vv, vn, vl, ↓reduceIte, Nat.reduceEqDiff, Nat.reduceAdd, Nat.reduceMul, Nat.reduceSub, Nat.reduceLeDiff, Nat.reduceLT, Nat.reduceBEq, Nat.reduceBNe, reduceCtorEq, Int.reduceBEq, Int.reduceBNe, Int.reduceLT, Int.reduceLE, Int.reduceEq, Int.reduceToNat, Int.reduceAdd, Int.reduceSub, Int.reduceNeg, R1.get (G := G), a1, a2, a3, hok, l1]
  cases b1 : geF g 4607182418800017408 with
  | false =>
    have hok : okT f g mo ex = false := by rw [hok, b1]; simp
    simp +contextual only [vq, vc, ve, vv, vn, vl, ↓reduceIte, Nat.reduceEqDiff, Nat.reduceAdd, Nat.reduceMul, Nat.reduceSub, Nat.reduceLeDiff, Nat.reduceLT, Nat.reduceBEq, Nat.reduceBNe, reduceCtorEq, Int.reduceBEq, Int.reduceBNe, Int.reduceLT, Int.reduceLE, Int.reduceEq, Int.reduceToNat, Int.reduceAdd, Int.reduceSub, Int.reduceNeg, R1.get (G := G), a1, a2, a3, flt_geq, flt_leq, b1, hok, l1]
  | true =>
    cases b2 : leF g 4625196817309499392 with
    | false =>
      have hok : okT f g mo ex = false := by rw [hok, b2]; simp
      simp +contextual only [vq, vc, ve, vv, vn, vl, ↓reduceIte, Nat.reduceEqDiff, Nat.reduceAdd, Nat.reduceMul, Nat.reduceSub, Nat.reduceLeDiff, Nat.reduceLT, Nat.reduceBEq, Nat.reduceBNe, reduceCtorEq, Int.reduceBEq, Int.reduceBNe, Int.reduceLT, Int.reduceLE, Int.reduceEq, Int.reduceToNat, Int.reduceAdd, Int.reduceSub, Int.reduceNeg, R1.get (G := G), a1, a2, a3, flt_geq, flt_leq, b1, b2, hok, l1]
    | true =>
      have hv := c_retry_valid M1 ex
      cases b3 : (decide (0 ≤ ex) && decide (ex ≤ 253402300799)) with
      | false =>
        rw [b3] at hv
        have hok : okT f g mo ex = false := by rw [hok, b3]; simp
        simp +contextual only [vq, vc, ve, vv, vn, vl, ↓reduceIte, Nat.reduceEqDiff, Nat.reduceAdd, Nat.reduceMul, Nat.reduceSub, Nat.reduceLeDiff, Nat.reduceLT, Nat.reduceBEq, Nat.reduceBNe, reduceCtorEq, Int.reduceBEq, Int.reduceBNe, Int.reduceLT, Int.reduceLE, Int.reduceEq, Int.reduceToNat, Int.reduceAdd, Int.reduceSub, Int.reduceNeg, R1.get (G := G), a1, a2, a3, flt_geq, flt_leq, b1, b2, callR_val hv, hok, l1]
      | true =>
        rw [b3] at hv
        have hok : okT f g mo ex = true := by rw [hok, b1, b2, b3]; simp [a1, a2, a3]
        simp +contextual only [vq, vc, ve, vv, vn, vl, ↓reduceIte, Nat.reduceEqDiff, Nat.reduceAdd, Nat.reduceMul, Nat.reduceSub, Nat.reduceLeDiff, Nat.reduceLT, Nat.reduceBEq, Nat.reduceBNe, reduceCtorEq, Int.reduceBEq, Int.reduceBNe, Int.reduceLT, Int.reduceLE, Int.reduceEq, Int.reduceToNat, Int.reduceAdd, Int.reduceSub, Int.reduceNeg, R1.get (G := G), a1, a2, a3, flt_geq, flt_leq, b1, b2, callR_val hv, hok, l1]

theorem c_r29_Check (m : Mem) (f : Int) (g : Nat) (mo ex : Int) : Go.Ev.Comes T G f_r29_Check [.agg (timesE f g mo ex)] m none ⟨.val (.int .i64 (if okT f g mo ex = true then 0 else 2)), m, none⟩ := by
  refine comes2 T_r29_Check rfl fun M hg hlen hlow => ?_
  have hl0 : m.bl.length ≤ M.low := by omega
  have hok := okT_eq f g mo ex
  simp only [F_r29_Check, timesE]
  simp +contextual only [vq, vc, ve, vv, vn, vl, ↓reduceIte, Nat.reduceEqDiff, Nat.reduceAdd, Nat.reduceMul, Nat.reduceSub, Nat.reduceLeDiff, Nat.reduceLT, Nat.reduceBEq, Nat.reduceBNe, reduceCtorEq, Int.reduceBEq, Int.reduceBNe, Int.reduceLT, Int.reduceLE, Int.reduceEq, Int.reduceToNat, Int.reduceAdd, Int.reduceSub, Int.reduceNeg]
  refine new_mk fun M1 e1 => ?_
  have l1 : m.bl.length ≤ M1.low := by rw [e1]; exact hl0
  have R1 : RowIs M1 M.bl.length [.int .i64 f, .flt .f64 g, .int .i64 mo, .int .i64 ex] := by rw [e1]; exact row_push _ _
  have hv := c_r29_may M1 ex
  by_cases a1 : 1 ≤ f
  · by_cases a4 : f ≤ 253402300799
    · by_cases a2 : f ≤ mo
      · by_cases a3 : mo ≤ 253402300799
        · cases b1 : geF g 4607182418800017408 with
          | false =>
            have hok : okT f g mo ex = false := by rw [hok, b1]; simp
            simp +contextual only [vq, vc, ve, vv, vn, vl, ↓reduceIte, Nat.reduceEqDiff, Nat.reduceAdd, Nat.reduceMul, Nat.reduceSub, Nat.reduceLeDiff, Nat.reduceLT, Nat.reduceBEq, Nat.reduceBNe, reduceCtorEq, Int.reduceBEq, Int.reduceBNe, Int.reduceLT, Int.reduceLE, Int.reduceEq, Int.reduceToNat, Int.reduceAdd, Int.reduceSub, Int.reduceNeg, R1.get (G := G), a1, a2, a3, a4, flt_geq, flt_leq, b1, hok, l1]
          | true =>
            cases b2 : leF g 4625196817309499392 with
            | false =>
              have hok : okT f g mo ex = false := by rw [hok, b2]; simp
              simp +contextual only [vq, vc, ve, vv, vn, vl, ↓reduceIte, Nat.reduceEqDiff, Nat.reduceAdd, Nat.reduceMul, Nat.reduceSub, Nat.reduceLeDiff, Nat.reduceLT, Nat.reduceBEq, Nat.reduceBNe, reduceCtorEq, Int.reduceBEq, Int.reduceBNe, Int.reduceLT, Int.reduceLE, Int.reduceEq, Int.reduceToNat, Int.reduceAdd, Int.reduceSub, Int.reduceNeg, R1.get (G := G), a1, a2, a3, a4, flt_geq, flt_leq, b1, b2, hok, l1]
            | true =>
              cases b3 : (decide (0 ≤ ex) && decide (ex ≤ 253402300799)) with
              | false =>
                rw [b3] at hv
                have hok : okT f g mo ex = false := by rw [hok, b3]; simp
                simp +contextual only [vq, vc, ve, vv, vn, vl, ↓reduceIte, Nat.reduceEqDiff, Nat.reduceAdd, Nat.reduceMul, Nat.reduceSub, Nat.reduceLeDiff, Nat.reduceLT, Nat.reduceBEq, Nat.reduceBNe, reduceCtorEq, Int.reduceBEq, Int.reduceBNe, Int.reduceLT, Int.reduceLE, Int.reduceEq, Int.reduceToNat, Int.reduceAdd, Int.reduceSub, Int.reduceNeg, R1.get (G := G), a1, a2, a3, a4, flt_geq, flt_leq, b1, b2, callR_val hv, hok, l1]
              | true =>
                rw [b3] at hv
                have x1 : ¬ f < 1 := by omega
                have x2 : ¬ mo < f := by omega
                have x3 : ¬ 253402300799 < mo := by omega
                have hok : okT f g mo ex = true := by
                  rw [hok, b1, b2, b3, decide_eq_false x1, decide_eq_false x2, decide_eq_false x3]
                  rfl
                simp +contextual only [vq, vc, ve, vv, vn, vl, ↓reduceIte, Nat.reduceEqDiff, Nat.reduceAdd, Nat.reduceMul, Nat.reduceSub, Nat.reduceLeDiff, Nat.reduceLT, Nat.reduceBEq, Nat.reduceBNe, reduceCtorEq, Int.reduceBEq, Int.reduceBNe, Int.reduceLT, Int.reduceLE, Int.reduceEq, Int.reduceToNat, Int.reduceAdd, Int.reduceSub, Int.reduceNeg, R1.get (G := G), a1, a2, a3, a4, flt_geq, flt_leq, b1, b2, callR_val hv, hok, l1]
        · have hok : okT f g mo ex = false := by unfold okT; simp [a3]
          cases b1 : geF g 4607182418800017408 <;> simp +contextual only [vq, vc, ve, vv, vn, vl, ↓reduceIte, Nat.reduceEqDiff, Nat.reduceAdd, Nat.reduceMul, Nat.reduceSub, Nat.reduceLeDiff, Nat.reduceLT, Nat.reduceBEq, Nat.reduceBNe, reduceCtorEq, Int.reduceBEq, Int.reduceBNe, Int.reduceLT, Int.reduceLE, Int.reduceEq, Int.reduceToNat, Int.reduceAdd, Int.reduceSub, Int.reduceNeg, R1.get (G := G), a1, a2, a3, a4, flt_geq, flt_leq, b1, hok, l1]
      · have hok : okT f g mo ex = false := by unfold okT; simp [a2]
        cases b1 : geF g 4607182418800017408 <;> simp +contextual only [vq, vc, ve, vv, vn, vl, ↓reduceIte, Nat.reduceEqDiff, Nat.reduceAdd, Nat.reduceMul, Nat.reduceSub, Nat.reduceLeDiff, Nat.reduceLT, Nat.reduceBEq, Nat.reduceBNe, reduceCtorEq, Int.reduceBEq, Int.reduceBNe, Int.reduceLT, Int.reduceLE, Int.reduceEq, Int.reduceToNat, Int.reduceAdd, Int.reduceSub, Int.reduceNeg, R1.get (G := G), a1, a2, a4, flt_geq, flt_leq, b1, hok, l1]
    · have hok : okT f g mo ex = false := by
        unfold okT
        by_cases a2 : f ≤ mo
        · have : ¬ mo ≤ 253402300799 := by omega
          simp [this]
        · simp [a2]
      by_cases a2 : f ≤ mo <;> cases b1 : geF g 4607182418800017408 <;> simp +contextual only [vq, vc, ve, vv, vn, vl, ↓reduceIte, Nat.reduceEqDiff, Nat.reduceAdd, Nat.reduceMul, Nat.reduceSub, Nat.reduceLeDiff, Nat.reduceLT, Nat.reduceBEq, Nat.reduceBNe, reduceCtorEq, Int.reduceBEq, Int.reduceBNe, Int.reduceLT, Int.reduceLE, Int.reduceEq, Int.reduceToNat, Int.reduceAdd, Int.reduceSub, Int.reduceNeg, R1.get (G := G), a1, a2, a4, flt_geq, flt_leq, b1, hok, l1]
  · have hok : okT f g mo ex = false := by unfold okT; simp [a1]
    by_cases a2 : f ≤ mo <;> cases b1 : geF g 4607182418800017408 <;> simp +contextual only [vq, vc, ve, vv, vn, vl, ↓reduceIte, Nat.reduceEqDiff, Nat.reduceAdd, Nat.reduceMul, Nat.reduceSub, Nat.reduceLeDiff, Nat.reduceLT, Nat.reduceBEq, Nat.reduceBNe, reduceCtorEq, Int.reduceBEq, Int.reduceBNe, Int.reduceLT, Int.reduceLE, Int.reduceEq, Int.reduceToNat, Int.reduceAdd, Int.reduceSub, Int.reduceNeg, R1.get (G := G), a1, a2, flt_geq, flt_leq, b1, hok, l1]
end Go.Proofs.YthmmoahdobpfoaaGreatDoor.retryWaits

namespace Go.Proofs.YthmmoahdobpfoaaGreatDoor.retryWaits
open Go.Ev hiding Comes
open Go.Ev.Flt
variable [GG]

theorem wait_no {f : Int} {g : Nat} {mo ex n : Int} (h : ¬ (okT f g mo ex = true ∧ 1 ≤ n)) : waitV f g mo ex n = 0 := if_neg h
theorem wait_yes {f : Int} {g : Nat} {mo ex n : Int} (h : okT f g mo ex = true) (h1 : 1 ≤ n) : waitV f g mo ex n = waitK f g mo (min (n - 1) 32).toNat := if_pos ⟨h, h1⟩
theorem waitK_most {f : Int} {g : Nat} {mo : Int} {k : Nat} (h : geF (wv f g k) (fl mo) = true) : waitK f g mo k = mo := if_pos h
theorem waitK_int {f : Int} {g : Nat} {mo : Int} {k : Nat} (h : geF (wv f g k) (fl mo) = false) : waitK f g mo k = intF (wv f g k) := by
  unfold waitK
  rw [h]
  rfl

theorem c_retry_Wait (m : Mem) (f : Int) (g : Nat) (mo ex n : Int) (hn1 : -9223372036854775808 ≤ n) (hn2 : n ≤ 9223372036854775807) : Go.Ev.Comes T G f_retry_Wait [.agg (timesE f g mo ex), .int .i64 n] m none ⟨.val (.int .i64 (waitV f g mo ex n)), m, none⟩ := by
  refine comes2 T_retry_Wait rfl fun M hg hlen hlow => ?_
  have hl0 : m.bl.length ≤ M.low := by omega
  simp only [F_retry_Wait, timesE]
  simp +contextual only [vq, vc, ve, vv, vn, vl, ↓reduceIte, Nat.reduceEqDiff, Nat.reduceAdd, Nat.reduceMul, Nat.reduceSub, Nat.reduceLeDiff, Nat.reduceLT, Nat.reduceBEq, Nat.reduceBNe, reduceCtorEq, Int.reduceBEq, Int.reduceBNe, Int.reduceLT, Int.reduceLE, Int.reduceEq, Int.reduceToNat, Int.reduceAdd, Int.reduceSub, Int.reduceNeg]
  refine new_mk fun M1 e1 => ?_
  have l1 : m.bl.length ≤ M1.low := by rw [e1]; exact hl0
  have R1 : RowIs M1 M.bl.length [.int .i64 f, .flt .f64 g, .int .i64 mo, .int .i64 ex] := by rw [e1]; exact row_push _ _
  have hc := c_retry_Check M1 f g mo ex
  simp only [timesE] at hc
  cases ho : okT f g mo ex with
  | false =>
    have hw : waitV f g mo ex n = 0 := wait_no (by rw [ho]; simp)
    rw [ho] at hc
    simp +contextual only [vq, vc, ve, vv, vn, vl, ↓reduceIte, Nat.reduceEqDiff, Nat.reduceAdd, Nat.reduceMul, Nat.reduceSub, Nat.reduceLeDiff, Nat.reduceLT, Nat.reduceBEq, Nat.reduceBNe, reduceCtorEq, Int.reduceBEq, Int.reduceBNe, Int.reduceLT, Int.reduceLE, Int.reduceEq, Int.reduceToNat, Int.reduceAdd, Int.reduceSub, Int.reduceNeg, R1.get (G := G), R1.getN (G := G), callR_val hc, hw, l1]
  | true =>
    rw [ho] at hc
    by_cases h1 : n < 1
    · have hw : waitV f g mo ex n = 0 := wait_no (fun h => by omega)
      simp +contextual only [vq, vc, ve, vv, vn, vl, ↓reduceIte, Nat.reduceEqDiff, Nat.reduceAdd, Nat.reduceMul, Nat.reduceSub, Nat.reduceLeDiff, Nat.reduceLT, Nat.reduceBEq, Nat.reduceBNe, reduceCtorEq, Int.reduceBEq, Int.reduceBNe, Int.reduceLT, Int.reduceLE, Int.reduceEq, Int.reduceToNat, Int.reduceAdd, Int.reduceSub, Int.reduceNeg, R1.get (G := G), R1.getN (G := G), callR_val hc, h1, hw, l1]
    · have hw : waitV f g mo ex n = waitK f g mo (min (n - 1) 32).toNat := wait_yes ho (by omega)
      obtain ⟨o1, o2, o3, o4, o5, o6⟩ := okT_spec ho
      have w1 : IntKind.i64.wrap (n - 1) = n - 1 := wrap64 (by omega) (by omega)
      obtain ⟨k, hk⟩ : ∃ k : Nat, (if (32 : Int) < n - 1 then (32 : Int) else n - 1) = (k : Nat) := ⟨(if (32 : Int) < n - 1 then (32 : Int) else n - 1).toNat, by
        rw [Int.toNat_of_nonneg]
        split <;> omega⟩
      have hk2 : (min (n - 1) 32).toNat = k := by
        split at hk <;> omega
      rw [hk2] at hw
      have hk32 : k ≤ 32 := by omega
      simp +contextual only [vq, vc, ve, vv, vn, vl, ↓reduceIte, Nat.reduceEqDiff, Nat.reduceAdd, Nat.reduceMul, Nat.reduceSub, Nat.reduceLeDiff, Nat.reduceLT, Nat.reduceBEq, Nat.reduceBNe, reduceCtorEq, Int.reduceBEq, Int.reduceBNe, Int.reduceLT, Int.reduceLE, Int.reduceEq, Int.reduceToNat, Int.reduceAdd, Int.reduceSub, Int.reduceNeg, R1.get (G := G), R1.getN (G := G), callR_val hc, h1, w1, hk, flt_of]
      refine loop2 (fun q st => ∃ (i : Nat) (A : Fr), st = ⟨A, M1, [], none⟩ ∧ q = k - i ∧ i ≤ k ∧ A 2 = .ptr (some ⟨.mem M.bl.length 0, 0⟩) ∧ A 5 = .flt .f64 (wv f g i) ∧ A 18 = .int .i64 k ∧ A 19 = .int .i64 i) k ⟨0, _, rfl, by omega, by omega, by simp +contextual only [vq, vc, ve, vv, vn, vl, ↓reduceIte, Nat.reduceEqDiff, Nat.reduceAdd, Nat.reduceMul, Nat.reduceSub, Nat.reduceLeDiff, Nat.reduceLT, Nat.reduceBEq, Nat.reduceBNe, reduceCtorEq, Int.reduceBEq, Int.reduceBNe, Int.reduceLT, Int.reduceLE, Int.reduceEq, Int.reduceToNat, Int.reduceAdd, Int.reduceSub, Int.reduceNeg], by simp +contextual only [vq, vc, ve, vv, vn, vl, ↓reduceIte, Nat.reduceEqDiff, Nat.reduceAdd, Nat.reduceMul, Nat.reduceSub, Nat.reduceLeDiff, Nat.reduceLT, Nat.reduceBEq, Nat.reduceBNe, reduceCtorEq, Int.reduceBEq, Int.reduceBNe, Int.reduceLT, Int.reduceLE, Int.reduceEq, Int.reduceToNat, Int.reduceAdd, Int.reduceSub, Int.reduceNeg]; rfl, by simp +contextual only [vq, vc, ve, vv, vn, vl, ↓reduceIte, Nat.reduceEqDiff, Nat.reduceAdd, Nat.reduceMul, Nat.reduceSub, Nat.reduceLeDiff, Nat.reduceLT, Nat.reduceBEq, Nat.reduceBNe, reduceCtorEq, Int.reduceBEq, Int.reduceBNe, Int.reduceLT, Int.reduceLE, Int.reduceEq, Int.reduceToNat, Int.reduceAdd, Int.reduceSub, Int.reduceNeg, hk], by simp +contextual only [vq, vc, ve, vv, vn, vl, ↓reduceIte, Nat.reduceEqDiff, Nat.reduceAdd, Nat.reduceMul, Nat.reduceSub, Nat.reduceLeDiff, Nat.reduceLT, Nat.reduceBEq, Nat.reduceBNe, reduceCtorEq, Int.reduceBEq, Int.reduceBNe, Int.reduceLT, Int.reduceLE, Int.reduceEq, Int.reduceToNat, Int.reduceAdd, Int.reduceSub, Int.reduceNeg]; rfl⟩ fun J hJ q st hI => ?_
      obtain ⟨i, A, rfl, rfl, hi, A2, A5, A18, A19⟩ := hI
      by_cases hlt : i < k
      · have hm := (wv_step ho i).2.1
        simp +contextual only [vq, vc, ve, vv, vn, vl, ↓reduceIte, Nat.reduceEqDiff, Nat.reduceAdd, Nat.reduceMul, Nat.reduceSub, Nat.reduceLeDiff, Nat.reduceLT, Nat.reduceBEq, Nat.reduceBNe, reduceCtorEq, Int.reduceBEq, Int.reduceBNe, Int.reduceLT, Int.reduceLE, Int.reduceEq, Int.reduceToNat, Int.reduceAdd, Int.reduceSub, Int.reduceNeg, A2, A5, A18, A19, hlt, R1.get (G := G), flt_mul hm, wsucc hlt (by omega)]
        exact again2 hJ (k - (i + 1)) (by omega) ⟨i + 1, _, rfl, rfl, by omega, by simp +contextual only [vq, vc, ve, vv, vn, vl, ↓reduceIte, Nat.reduceEqDiff, Nat.reduceAdd, Nat.reduceMul, Nat.reduceSub, Nat.reduceLeDiff, Nat.reduceLT, Nat.reduceBEq, Nat.reduceBNe, reduceCtorEq, Int.reduceBEq, Int.reduceBNe, Int.reduceLT, Int.reduceLE, Int.reduceEq, Int.reduceToNat, Int.reduceAdd, Int.reduceSub, Int.reduceNeg, A2], by simp +contextual only [vq, vc, ve, vv, vn, vl, ↓reduceIte, Nat.reduceEqDiff, Nat.reduceAdd, Nat.reduceMul, Nat.reduceSub, Nat.reduceLeDiff, Nat.reduceLT, Nat.reduceBEq, Nat.reduceBNe, reduceCtorEq, Int.reduceBEq, Int.reduceBNe, Int.reduceLT, Int.reduceLE, Int.reduceEq, Int.reduceToNat, Int.reduceAdd, Int.reduceSub, Int.reduceNeg], by simp +contextual only [vq, vc, ve, vv, vn, vl, ↓reduceIte, Nat.reduceEqDiff, Nat.reduceAdd, Nat.reduceMul, Nat.reduceSub, Nat.reduceLeDiff, Nat.reduceLT, Nat.reduceBEq, Nat.reduceBNe, reduceCtorEq, Int.reduceBEq, Int.reduceBNe, Int.reduceLT, Int.reduceLE, Int.reduceEq, Int.reduceToNat, Int.reduceAdd, Int.reduceSub, Int.reduceNeg, A18], by simp +contextual only [vq, vc, ve, vv, vn, vl, ↓reduceIte, Nat.reduceEqDiff, Nat.reduceAdd, Nat.reduceMul, Nat.reduceSub, Nat.reduceLeDiff, Nat.reduceLT, Nat.reduceBEq, Nat.reduceBNe, reduceCtorEq, Int.reduceBEq, Int.reduceBNe, Int.reduceLT, Int.reduceLE, Int.reduceEq, Int.reduceToNat, Int.reduceAdd, Int.reduceSub, Int.reduceNeg]⟩
      · have he : i = k := by omega
        subst he
        cases hg2 : geF (wv f g i) (fl mo) with
        | true =>
          have hv := waitK_most hg2
          have hg2 : geF (wv f g i) (FloatKind.f64.nearest mo) = true := hg2
          simp +contextual only [vq, vc, ve, vv, vn, vl, ↓reduceIte, Nat.reduceEqDiff, Nat.reduceAdd, Nat.reduceMul, Nat.reduceSub, Nat.reduceLeDiff, Nat.reduceLT, Nat.reduceBEq, Nat.reduceBNe, reduceCtorEq, Int.reduceBEq, Int.reduceBNe, Int.reduceLT, Int.reduceLE, Int.reduceEq, Int.reduceToNat, Int.reduceAdd, Int.reduceSub, Int.reduceNeg, A2, A5, A18, A19, hlt, R1.get (G := G), flt_of, flt_geq, hg2, hw, hv, l1]
        | false =>
          have hv := waitK_int hg2
          obtain ⟨t1, t2, t3⟩ := wait_int ho hg2
          have hg2 : geF (wv f g i) (FloatKind.f64.nearest mo) = false := hg2
          simp +contextual only [vq, vc, ve, vv, vn, vl, ↓reduceIte, Nat.reduceEqDiff, Nat.reduceAdd, Nat.reduceMul, Nat.reduceSub, Nat.reduceLeDiff, Nat.reduceLT, Nat.reduceBEq, Nat.reduceBNe, reduceCtorEq, Int.reduceBEq, Int.reduceBNe, Int.reduceLT, Int.reduceLE, Int.reduceEq, Int.reduceToNat, Int.reduceAdd, Int.reduceSub, Int.reduceNeg, A2, A5, A18, A19, hlt, R1.get (G := G), flt_of, flt_geq, hg2, flt_int t1 (by omega) (by omega), hw, hv, l1]

theorem c_r29_Wait (m : Mem) (f : Int) (g : Nat) (mo ex n : Int) (hn1 : -9223372036854775808 ≤ n) (hn2 : n ≤ 9223372036854775807) : Go.Ev.Comes T G f_r29_Wait [.agg (timesE f g mo ex), .int .i64 n] m none ⟨.val (.int .i64 (waitV f g mo ex n)), m, none⟩ := by
  refine comes2 T_r29_Wait rfl fun M hg hlen hlow => ?_
  have hl0 : m.bl.length ≤ M.low := by omega
  simp only [F_r29_Wait, timesE]
  simp +contextual only [vq, vc, ve, vv, vn, vl, ↓reduceIte, Nat.reduceEqDiff, Nat.reduceAdd, Nat.reduceMul, Nat.reduceSub, Nat.reduceLeDiff, Nat.reduceLT, Nat.reduceBEq, Nat.reduceBNe, reduceCtorEq, Int.reduceBEq, Int.reduceBNe, Int.reduceLT, Int.reduceLE, Int.reduceEq, Int.reduceToNat, Int.reduceAdd, Int.reduceSub, Int.reduceNeg]
  refine new_mk fun M1 e1 => ?_
  have l1 : m.bl.length ≤ M1.low := by rw [e1]; exact hl0
  have R1 : RowIs M1 M.bl.length [.int .i64 f, .flt .f64 g, .int .i64 mo, .int .i64 ex] := by rw [e1]; exact row_push _ _
  have hc := c_r29_Check M1 f g mo ex
  simp only [timesE] at hc
  cases ho : okT f g mo ex with
  | false =>
    have hw : waitV f g mo ex n = 0 := wait_no (by rw [ho]; simp)
    rw [ho] at hc
    simp +contextual only [vq, vc, ve, vv, vn, vl, ↓reduceIte, Nat.reduceEqDiff, Nat.reduceAdd, Nat.reduceMul, Nat.reduceSub, Nat.reduceLeDiff, Nat.reduceLT, Nat.reduceBEq, Nat.reduceBNe, reduceCtorEq, Int.reduceBEq, Int.reduceBNe, Int.reduceLT, Int.reduceLE, Int.reduceEq, Int.reduceToNat, Int.reduceAdd, Int.reduceSub, Int.reduceNeg, R1.get (G := G), R1.getN (G := G), callR_val hc, hw, l1]
  | true =>
    rw [ho] at hc
    by_cases h1 : n < 1
    · have hw : waitV f g mo ex n = 0 := wait_no (fun h => by omega)
      simp +contextual only [vq, vc, ve, vv, vn, vl, ↓reduceIte, Nat.reduceEqDiff, Nat.reduceAdd, Nat.reduceMul, Nat.reduceSub, Nat.reduceLeDiff, Nat.reduceLT, Nat.reduceBEq, Nat.reduceBNe, reduceCtorEq, Int.reduceBEq, Int.reduceBNe, Int.reduceLT, Int.reduceLE, Int.reduceEq, Int.reduceToNat, Int.reduceAdd, Int.reduceSub, Int.reduceNeg, R1.get (G := G), R1.getN (G := G), callR_val hc, h1, hw, l1]
    · have hw : waitV f g mo ex n = waitK f g mo (min (n - 1) 32).toNat := wait_yes ho (by omega)
      obtain ⟨o1, o2, o3, o4, o5, o6⟩ := okT_spec ho
      obtain ⟨k, hk⟩ : ∃ k : Nat, (min (n - 1) 32).toNat = k := ⟨_, rfl⟩
      rw [hk] at hw
      have hk32 : k ≤ 32 := by omega
      simp +contextual only [vq, vc, ve, vv, vn, vl, ↓reduceIte, Nat.reduceEqDiff, Nat.reduceAdd, Nat.reduceMul, Nat.reduceSub, Nat.reduceLeDiff, Nat.reduceLT, Nat.reduceBEq, Nat.reduceBNe, reduceCtorEq, Int.reduceBEq, Int.reduceBNe, Int.reduceLT, Int.reduceLE, Int.reduceEq, Int.reduceToNat, Int.reduceAdd, Int.reduceSub, Int.reduceNeg, R1.get (G := G), R1.getN (G := G), callR_val hc, h1, flt_of]
      refine loop2 (fun q st => ∃ (i : Nat) (A : Fr), st = ⟨A, M1, [], none⟩ ∧ q = k - i ∧ i ≤ k ∧ A 1 = .int .i64 n ∧ A 2 = .ptr (some ⟨.mem M.bl.length 0, 0⟩) ∧ A 5 = .flt .f64 (wv f g i) ∧ A 6 = .int .i64 ((i + 1 : Nat) : Int)) k ⟨0, _, rfl, by omega, by omega, by simp +contextual only [vq, vc, ve, vv, vn, vl, ↓reduceIte, Nat.reduceEqDiff, Nat.reduceAdd, Nat.reduceMul, Nat.reduceSub, Nat.reduceLeDiff, Nat.reduceLT, Nat.reduceBEq, Nat.reduceBNe, reduceCtorEq, Int.reduceBEq, Int.reduceBNe, Int.reduceLT, Int.reduceLE, Int.reduceEq, Int.reduceToNat, Int.reduceAdd, Int.reduceSub, Int.reduceNeg], by simp +contextual only [vq, vc, ve, vv, vn, vl, ↓reduceIte, Nat.reduceEqDiff, Nat.reduceAdd, Nat.reduceMul, Nat.reduceSub, Nat.reduceLeDiff, Nat.reduceLT, Nat.reduceBEq, Nat.reduceBNe, reduceCtorEq, Int.reduceBEq, Int.reduceBNe, Int.reduceLT, Int.reduceLE, Int.reduceEq, Int.reduceToNat, Int.reduceAdd, Int.reduceSub, Int.reduceNeg], by simp +contextual only [vq, vc, ve, vv, vn, vl, ↓reduceIte, Nat.reduceEqDiff, Nat.reduceAdd, Nat.reduceMul, Nat.reduceSub, Nat.reduceLeDiff, Nat.reduceLT, Nat.reduceBEq, Nat.reduceBNe, reduceCtorEq, Int.reduceBEq, Int.reduceBNe, Int.reduceLT, Int.reduceLE, Int.reduceEq, Int.reduceToNat, Int.reduceAdd, Int.reduceSub, Int.reduceNeg]; rfl, by simp +contextual only [vq, vc, ve, vv, vn, vl, ↓reduceIte, Nat.reduceEqDiff, Nat.reduceAdd, Nat.reduceMul, Nat.reduceSub, Nat.reduceLeDiff, Nat.reduceLT, Nat.reduceBEq, Nat.reduceBNe, reduceCtorEq, Int.reduceBEq, Int.reduceBNe, Int.reduceLT, Int.reduceLE, Int.reduceEq, Int.reduceToNat, Int.reduceAdd, Int.reduceSub, Int.reduceNeg]; rfl⟩ fun J hJ q st hI => ?_
      obtain ⟨i, A, rfl, rfl, hi, A1, A2, A5, A6⟩ := hI
      by_cases hlt : i < k
      · have hm := (wv_step ho i).2.1
        have c1 : ((i + 1 : Nat) : Int) < n := by omega
        have c2 : ((i + 1 : Nat) : Int) ≤ 32 := by omega
        have c3 : IntKind.i64.wrap (((i + 1 : Nat) : Int) + 1) = ((i + 1 + 1 : Nat) : Int) := wrap_of (by omega) (by omega)
        simp +contextual only [vq, vc, ve, vv, vn, vl, ↓reduceIte, Nat.reduceEqDiff, Nat.reduceAdd, Nat.reduceMul, Nat.reduceSub, Nat.reduceLeDiff, Nat.reduceLT, Nat.reduceBEq, Nat.reduceBNe, reduceCtorEq, Int.reduceBEq, Int.reduceBNe, Int.reduceLT, Int.reduceLE, Int.reduceEq, Int.reduceToNat, Int.reduceAdd, Int.reduceSub, Int.reduceNeg, A1, A2, A5, A6, c1, c2, c3, R1.get (G := G), flt_mul hm]
        exact again2 hJ (k - (i + 1)) (by omega) ⟨i + 1, _, rfl, rfl, by omega, by simp +contextual only [vq, vc, ve, vv, vn, vl, ↓reduceIte, Nat.reduceEqDiff, Nat.reduceAdd, Nat.reduceMul, Nat.reduceSub, Nat.reduceLeDiff, Nat.reduceLT, Nat.reduceBEq, Nat.reduceBNe, reduceCtorEq, Int.reduceBEq, Int.reduceBNe, Int.reduceLT, Int.reduceLE, Int.reduceEq, Int.reduceToNat, Int.reduceAdd, Int.reduceSub, Int.reduceNeg, A1], by simp +contextual only [vq, vc, ve, vv, vn, vl, ↓reduceIte, Nat.reduceEqDiff, Nat.reduceAdd, Nat.reduceMul, Nat.reduceSub, Nat.reduceLeDiff, Nat.reduceLT, Nat.reduceBEq, Nat.reduceBNe, reduceCtorEq, Int.reduceBEq, Int.reduceBNe, Int.reduceLT, Int.reduceLE, Int.reduceEq, Int.reduceToNat, Int.reduceAdd, Int.reduceSub, Int.reduceNeg, A2], by simp +contextual only [vq, vc, ve, vv, vn, vl, ↓reduceIte, Nat.reduceEqDiff, Nat.reduceAdd, Nat.reduceMul, Nat.reduceSub, Nat.reduceLeDiff, Nat.reduceLT, Nat.reduceBEq, Nat.reduceBNe, reduceCtorEq, Int.reduceBEq, Int.reduceBNe, Int.reduceLT, Int.reduceLE, Int.reduceEq, Int.reduceToNat, Int.reduceAdd, Int.reduceSub, Int.reduceNeg], by simp +contextual only [vq, vc, ve, vv, vn, vl, ↓reduceIte, Nat.reduceEqDiff, Nat.reduceAdd, Nat.reduceMul, Nat.reduceSub, Nat.reduceLeDiff, Nat.reduceLT, Nat.reduceBEq, Nat.reduceBNe, reduceCtorEq, Int.reduceBEq, Int.reduceBNe, Int.reduceLT, Int.reduceLE, Int.reduceEq, Int.reduceToNat, Int.reduceAdd, Int.reduceSub, Int.reduceNeg]⟩
      · have he : i = k := by omega
        subst he
        have fin : ∀ b1 : Bool, decide (((i + 1 : Nat) : Int) < n) = b1 → ∀ b2 : Bool, decide (((i + 1 : Nat) : Int) ≤ 32) = b2 → (b1 && b2) = false := by
          intro b1 h1 b2 h2
          rw [← h1, ← h2]
          simp only [Bool.and_eq_false_iff, decide_eq_false_iff_not]
          omega
        have hv : geF (wv f g i) (fl mo) = true ∧ waitK f g mo i = mo ∨ geF (wv f g i) (fl mo) = false ∧ waitK f g mo i = intF (wv f g i) := by
          cases hg2 : geF (wv f g i) (fl mo) with
          | true => exact .inl ⟨rfl, waitK_most hg2⟩
          | false => exact .inr ⟨rfl, waitK_int hg2⟩
        by_cases c1 : ((i + 1 : Nat) : Int) < n
        · have c2 : ¬ ((i + 1 : Nat) : Int) ≤ 32 := by omega
          rcases hv with ⟨hg2, hv⟩ | ⟨hg2, hv⟩
          · have hg2 : geF (wv f g i) (FloatKind.f64.nearest mo) = true := hg2
            simp +contextual only [vq, vc, ve, vv, vn, vl, ↓reduceIte, Nat.reduceEqDiff, Nat.reduceAdd, Nat.reduceMul, Nat.reduceSub, Nat.reduceLeDiff, Nat.reduceLT, Nat.reduceBEq, Nat.reduceBNe, reduceCtorEq, Int.reduceBEq, Int.reduceBNe, Int.reduceLT, Int.reduceLE, Int.reduceEq, Int.reduceToNat, Int.reduceAdd, Int.reduceSub, Int.reduceNeg, A1, A2, A5, A6, c1, c2, R1.get (G := G), flt_of, flt_geq, hg2, hw, hv, l1]
          · obtain ⟨t1, t2, t3⟩ := wait_int ho hg2
            have hg2 : geF (wv f g i) (FloatKind.f64.nearest mo) = false := hg2
            simp +contextual only [vq, vc, ve, vv, vn, vl, ↓reduceIte, Nat.reduceEqDiff, Nat.reduceAdd, Nat.reduceMul, Nat.reduceSub, Nat.reduceLeDiff, Nat.reduceLT, Nat.reduceBEq, Nat.reduceBNe, reduceCtorEq, Int.reduceBEq, Int.reduceBNe, Int.reduceLT, Int.reduceLE, Int.reduceEq, Int.reduceToNat, Int.reduceAdd, Int.reduceSub, Int.reduceNeg, A1, A2, A5, A6, c1, c2, R1.get (G := G), flt_of, flt_geq, hg2, flt_int t1 (by omega) (by omega), hw, hv, l1]
        · rcases hv with ⟨hg2, hv⟩ | ⟨hg2, hv⟩
          · have hg2 : geF (wv f g i) (FloatKind.f64.nearest mo) = true := hg2
            simp +contextual only [vq, vc, ve, vv, vn, vl, ↓reduceIte, Nat.reduceEqDiff, Nat.reduceAdd, Nat.reduceMul, Nat.reduceSub, Nat.reduceLeDiff, Nat.reduceLT, Nat.reduceBEq, Nat.reduceBNe, reduceCtorEq, Int.reduceBEq, Int.reduceBNe, Int.reduceLT, Int.reduceLE, Int.reduceEq, Int.reduceToNat, Int.reduceAdd, Int.reduceSub, Int.reduceNeg, A1, A2, A5, A6, c1, R1.get (G := G), flt_of, flt_geq, hg2, hw, hv, l1]
          · obtain ⟨t1, t2, t3⟩ := wait_int ho hg2
            have hg2 : geF (wv f g i) (FloatKind.f64.nearest mo) = false := hg2
            simp +contextual only [vq, vc, ve, vv, vn, vl, ↓reduceIte, Nat.reduceEqDiff, Nat.reduceAdd, Nat.reduceMul, Nat.reduceSub, Nat.reduceLeDiff, Nat.reduceLT, Nat.reduceBEq, Nat.reduceBNe, reduceCtorEq, Int.reduceBEq, Int.reduceBNe, Int.reduceLT, Int.reduceLE, Int.reduceEq, Int.reduceToNat, Int.reduceAdd, Int.reduceSub, Int.reduceNeg, A1, A2, A5, A6, c1, R1.get (G := G), flt_of, flt_geq, hg2, flt_int t1 (by omega) (by omega), hw, hv, l1]
end Go.Proofs.YthmmoahdobpfoaaGreatDoor.retryWaits

namespace Go.Proofs.YthmmoahdobpfoaaGreatDoor.retryWaits
open Go.Ev hiding Comes
open Go.Ev (FitsO OrcOk OrcRun GPlain)

theorem mixW : Tryz.prog.follows .mixedOrders = true := by kernel_rfl
noncomputable def K0 : FuncId → Option EFunc := getF Tryz.prog
theorem fits0 : FitsO Tryz.prog K0 := fun _ _ h => .inl h
theorem ok0 (base : Nat) (w0 : World) : OrcOk Tryz.prog K0 tabG base w0 := by
  intro f ef o args m v j w vs hf hp ho hm hv
  exact absurd hp (getF_num hf)
theorem gplain : GPlain tabG := by
  intro g cs h
  unfold tabG at h
  split at h
  · cases h; exact (show tabRow.all plainV = true by kernel_rfl)
  · cases h
def k_octet_Is : List (List EV × EV) := [([.int .i64 3, .int .u8 97], .bool true),
  ([.int .i64 10, .int .u8 97], .bool true),
  ([.int .i64 3, .int .u8 101], .bool true),
  ([.int .i64 10, .int .u8 101], .bool true),
  ([.int .i64 3, .int .u8 120], .bool true),
  ([.int .i64 10, .int .u8 120], .bool true),
  ([.int .i64 3, .int .u8 109], .bool true),
  ([.int .i64 10, .int .u8 109], .bool true),
  ([.int .i64 3, .int .u8 112], .bool true),
  ([.int .i64 10, .int .u8 112], .bool true),
  ([.int .i64 3, .int .u8 108], .bool true),
  ([.int .i64 10, .int .u8 108], .bool true),
  ([.int .i64 3, .int .u8 66], .bool true),
  ([.int .i64 10, .int .u8 66], .bool true),
  ([.int .i64 3, .int .u8 98], .bool true),
  ([.int .i64 10, .int .u8 98], .bool true),
  ([.int .i64 13, .int .u8 97], .bool true),
  ([.int .i64 13, .int .u8 101], .bool true),
  ([.int .i64 13, .int .u8 120], .bool true),
  ([.int .i64 13, .int .u8 109], .bool true),
  ([.int .i64 13, .int .u8 112], .bool true),
  ([.int .i64 13, .int .u8 108], .bool true),
  ([.int .i64 13, .int .u8 98], .bool true)]
theorem k_octet_Is_run : OrcRun K0 tabG 63 (few k_octet_Is) := OrcRun.all (k := 3000) (by kernel_rfl)
noncomputable def K1 : FuncId → Option EFunc := over K0 63 (few k_octet_Is)
theorem fits1 : FitsO Tryz.prog K1 := FitsO.over fits0
theorem ok1 : ∀ base w0, OrcOk Tryz.prog K1 tabG base w0 := OrcOk.over mixW fits0 gplain ok0 (by kernel_rfl) k_octet_Is_run
def k_domain_Check : List (List EV × EV) := [([.agg [.int .i64 1, .str [97, 46, 101, 120, 97, 109, 112, 108, 101], .int .u8 0, .int .u8 0, .int .u8 0, .int .u8 0, .int .u8 0, .int .u8 0, .int .u8 0, .int .u8 0, .int .u8 0, .int .u8 0, .int .u8 0, .int .u8 0, .int .u8 0, .int .u8 0, .int .u8 0, .int .u8 0], .bool true], .int .i64 0),
  ([.agg [.int .i64 1, .str [66, 46, 101, 120, 97, 109, 112, 108, 101], .int .u8 0, .int .u8 0, .int .u8 0, .int .u8 0, .int .u8 0, .int .u8 0, .int .u8 0, .int .u8 0, .int .u8 0, .int .u8 0, .int .u8 0, .int .u8 0, .int .u8 0, .int .u8 0, .int .u8 0, .int .u8 0], .bool true], .int .i64 0),
  ([.agg [.int .i64 1, .str [98, 46, 101, 120, 97, 109, 112, 108, 101], .int .u8 0, .int .u8 0, .int .u8 0, .int .u8 0, .int .u8 0, .int .u8 0, .int .u8 0, .int .u8 0, .int .u8 0, .int .u8 0, .int .u8 0, .int .u8 0, .int .u8 0, .int .u8 0, .int .u8 0, .int .u8 0], .bool true], .int .i64 0)]
theorem k_domain_Check_run : OrcRun K1 tabG 27 (few k_domain_Check) := OrcRun.all (k := 3000) (by kernel_rfl)
noncomputable def K2 : FuncId → Option EFunc := over K1 27 (few k_domain_Check)
theorem fits2 : FitsO Tryz.prog K2 := FitsO.over fits1
theorem ok2 : ∀ base w0, OrcOk Tryz.prog K2 tabG base w0 := OrcOk.over mixW fits1 gplain ok1 (by kernel_rfl) k_domain_Check_run
def k_domain_Ascii : List (List EV × EV) := [([.agg [.int .i64 1, .str [97, 46, 101, 120, 97, 109, 112, 108, 101], .int .u8 0, .int .u8 0, .int .u8 0, .int .u8 0, .int .u8 0, .int .u8 0, .int .u8 0, .int .u8 0, .int .u8 0, .int .u8 0, .int .u8 0, .int .u8 0, .int .u8 0, .int .u8 0, .int .u8 0, .int .u8 0]], .tuple [.agg [.int .i64 1, .str [97, 46, 101, 120, 97, 109, 112, 108, 101], .int .u8 0, .int .u8 0, .int .u8 0, .int .u8 0, .int .u8 0, .int .u8 0, .int .u8 0, .int .u8 0, .int .u8 0, .int .u8 0, .int .u8 0, .int .u8 0, .int .u8 0, .int .u8 0, .int .u8 0, .int .u8 0], .int .i64 0]),
  ([.agg [.int .i64 1, .str [66, 46, 101, 120, 97, 109, 112, 108, 101], .int .u8 0, .int .u8 0, .int .u8 0, .int .u8 0, .int .u8 0, .int .u8 0, .int .u8 0, .int .u8 0, .int .u8 0, .int .u8 0, .int .u8 0, .int .u8 0, .int .u8 0, .int .u8 0, .int .u8 0, .int .u8 0]], .tuple [.agg [.int .i64 1, .str [98, 46, 101, 120, 97, 109, 112, 108, 101], .int .u8 0, .int .u8 0, .int .u8 0, .int .u8 0, .int .u8 0, .int .u8 0, .int .u8 0, .int .u8 0, .int .u8 0, .int .u8 0, .int .u8 0, .int .u8 0, .int .u8 0, .int .u8 0, .int .u8 0, .int .u8 0], .int .i64 0]),
  ([.agg [.int .i64 1, .str [98, 46, 101, 120, 97, 109, 112, 108, 101], .int .u8 0, .int .u8 0, .int .u8 0, .int .u8 0, .int .u8 0, .int .u8 0, .int .u8 0, .int .u8 0, .int .u8 0, .int .u8 0, .int .u8 0, .int .u8 0, .int .u8 0, .int .u8 0, .int .u8 0, .int .u8 0]], .tuple [.agg [.int .i64 1, .str [98, 46, 101, 120, 97, 109, 112, 108, 101], .int .u8 0, .int .u8 0, .int .u8 0, .int .u8 0, .int .u8 0, .int .u8 0, .int .u8 0, .int .u8 0, .int .u8 0, .int .u8 0, .int .u8 0, .int .u8 0, .int .u8 0, .int .u8 0, .int .u8 0, .int .u8 0], .int .i64 0])]
theorem k_domain_Ascii_run : OrcRun K2 tabG 51 (few k_domain_Ascii) := OrcRun.all (k := 3000) (by kernel_rfl)
noncomputable def K3 : FuncId → Option EFunc := over K2 51 (few k_domain_Ascii)
theorem fits3 : FitsO Tryz.prog K3 := FitsO.over fits2
theorem ok3 : ∀ base w0, OrcOk Tryz.prog K3 tabG base w0 := OrcOk.over mixW fits2 gplain ok2 (by kernel_rfl) k_domain_Ascii_run
def k_domain_Same : List (List EV × EV) := [([.agg [.int .i64 1, .str [97, 46, 101, 120, 97, 109, 112, 108, 101], .int .u8 0, .int .u8 0, .int .u8 0, .int .u8 0, .int .u8 0, .int .u8 0, .int .u8 0, .int .u8 0, .int .u8 0, .int .u8 0, .int .u8 0, .int .u8 0, .int .u8 0, .int .u8 0, .int .u8 0, .int .u8 0], .agg [.int .i64 1, .str [66, 46, 101, 120, 97, 109, 112, 108, 101], .int .u8 0, .int .u8 0, .int .u8 0, .int .u8 0, .int .u8 0, .int .u8 0, .int .u8 0, .int .u8 0, .int .u8 0, .int .u8 0, .int .u8 0, .int .u8 0, .int .u8 0, .int .u8 0, .int .u8 0, .int .u8 0]], .bool false),
  ([.agg [.int .i64 1, .str [97, 46, 101, 120, 97, 109, 112, 108, 101], .int .u8 0, .int .u8 0, .int .u8 0, .int .u8 0, .int .u8 0, .int .u8 0, .int .u8 0, .int .u8 0, .int .u8 0, .int .u8 0, .int .u8 0, .int .u8 0, .int .u8 0, .int .u8 0, .int .u8 0, .int .u8 0], .agg [.int .i64 1, .str [98, 46, 101, 120, 97, 109, 112, 108, 101], .int .u8 0, .int .u8 0, .int .u8 0, .int .u8 0, .int .u8 0, .int .u8 0, .int .u8 0, .int .u8 0, .int .u8 0, .int .u8 0, .int .u8 0, .int .u8 0, .int .u8 0, .int .u8 0, .int .u8 0, .int .u8 0]], .bool false),
  ([.agg [.int .i64 1, .str [66, 46, 101, 120, 97, 109, 112, 108, 101], .int .u8 0, .int .u8 0, .int .u8 0, .int .u8 0, .int .u8 0, .int .u8 0, .int .u8 0, .int .u8 0, .int .u8 0, .int .u8 0, .int .u8 0, .int .u8 0, .int .u8 0, .int .u8 0, .int .u8 0, .int .u8 0], .agg [.int .i64 1, .str [98, 46, 101, 120, 97, 109, 112, 108, 101], .int .u8 0, .int .u8 0, .int .u8 0, .int .u8 0, .int .u8 0, .int .u8 0, .int .u8 0, .int .u8 0, .int .u8 0, .int .u8 0, .int .u8 0, .int .u8 0, .int .u8 0, .int .u8 0, .int .u8 0, .int .u8 0]], .bool true)]
theorem k_domain_Same_run : OrcRun K3 tabG 30 (few k_domain_Same) := OrcRun.all (k := 3000) (by kernel_rfl)
noncomputable def K4 : FuncId → Option EFunc := over K3 30 (few k_domain_Same)
theorem fits4 : FitsO Tryz.prog K4 := FitsO.over fits3
theorem ok4 : ∀ base w0, OrcOk Tryz.prog K4 tabG base w0 := OrcOk.over mixW fits3 gplain ok3 (by kernel_rfl) k_domain_Same_run
def isYes : Option CR → Bool
  | some ⟨.val (.bool true), _, _⟩ => true
  | _ => false
theorem isYes_spec {r : Option CR} (h : isYes r = true) : ∃ m p, r = some ⟨.val (.bool true), m, p⟩ := by
  unfold isYes at h
  split at h
  · exact ⟨_, _, rfl⟩
  · cases h
theorem run : isYes (evFunL K4 tabG 3000 f_l29_wakes [] ⟨[], 0⟩ none) = true := by kernel_rfl
theorem known : OrcRun K4 tabG f_l29_wakes yes0 := by
  intro args v h
  unfold yes0 at h
  split at h
  · cases h
    obtain ⟨m, p, e⟩ := isYes_spec run
    exact ⟨rfl, rfl, m, p, comes_of_run e⟩
  · cases h
theorem fitsT : FitsO Tryz.prog T := by
  intro f ef h
  unfold T at h
  split at h
  · cases h; exact .inr ⟨_, rfl⟩
  · exact .inl h
theorem orcT (base : Nat) (w0 : World) : OrcOk Tryz.prog T tabG base w0 := by
  intro f ef o args m v j w vs hf hp ho hm hv
  unfold T at hf
  split at hf
  · rename_i h4
    cases hf
    cases hp
    obtain ⟨e4, he4, hp4⟩ := isPlainF_ok (show isPlainF (K4 f_l29_wakes) = true by kernel_rfl)
    have h4 : f = f_l29_wakes := h4
    subst h4
    exact orc_run mixW fits4 gplain ok4 he4 hp4 known ho hm hv
  · exact absurd hp (getF_num hf)
/-- What the law's first call comes to. -/
theorem c_l29_wakes [GG] (m : Mem) : Go.Ev.Comes T G f_l29_wakes [] m none ⟨.val (.bool true), m, none⟩ := ⟨1, rfl⟩
end Go.Proofs.YthmmoahdobpfoaaGreatDoor.retryWaits

namespace Go.Proofs.YthmmoahdobpfoaaGreatDoor.retryWaits
open Go.Ev hiding Comes
open Go.Ev.Flt
variable [GG]

theorem c_NewHeap (m : Mem) (f : FuncId) : ∃ a m', Go.Ev.Comes T G f_queue_NewHeap_retry_turn [.func f []] m none ⟨.val (.ptr (some a)), m', none⟩ ∧ Grown m m' ∧ min m.low m.bl.length ≤ m'.low := by
  suffices H : ∃ r, Go.Ev.Comes T G f_queue_NewHeap_retry_turn [.func f []] m none r ∧ ∃ a m', r = ⟨.val (.ptr (some a)), m', none⟩ ∧ Grown m m' ∧ min m.low m.bl.length ≤ m'.low by
    obtain ⟨r, hc, a, m', rfl, h⟩ := H
    exact ⟨a, m', hc, h⟩
  refine comes2P T_queue_NewHeap_retry_turn rfl fun M hg hlen hlow => ?_
  simp only [F_queue_NewHeap_retry_turn]
  simp +contextual only [vq, vc, ve, vv, vn, vl, ↓reduceIte, Nat.reduceEqDiff, Nat.reduceAdd, Nat.reduceMul, Nat.reduceSub, Nat.reduceLeDiff, Nat.reduceLT, Nat.reduceBEq, Nat.reduceBNe, reduceCtorEq, Int.reduceBEq, Int.reduceBNe, Int.reduceLT, Int.reduceLE, Int.reduceEq, Int.reduceToNat, Int.reduceAdd, Int.reduceSub, Int.reduceNeg]
  refine new_mk fun M1 e1 => ?_
  have g1 : Grown m M1 := hg.trans (by rw [e1]; exact Grown.rfl'.push)
  have l1 : M1.low = m.bl.length := by rw [e1]; exact hlow
  simp +contextual only [vq, vc, ve, vv, vn, vl, ↓reduceIte, Nat.reduceEqDiff, Nat.reduceAdd, Nat.reduceMul, Nat.reduceSub, Nat.reduceLeDiff, Nat.reduceLT, Nat.reduceBEq, Nat.reduceBNe, reduceCtorEq, Int.reduceBEq, Int.reduceBNe, Int.reduceLT, Int.reduceLE, Int.reduceEq, Int.reduceToNat, Int.reduceAdd, Int.reduceSub, Int.reduceNeg]
  exact postX_new (v := .ptr (some ⟨.mem M.bl.length 0, 0⟩)) (by simp +contextual only [vq, vc, ve, vv, vn, vl, ↓reduceIte, Nat.reduceEqDiff, Nat.reduceAdd, Nat.reduceMul, Nat.reduceSub, Nat.reduceLeDiff, Nat.reduceLT, Nat.reduceBEq, Nat.reduceBNe, reduceCtorEq, Int.reduceBEq, Int.reduceBNe, Int.reduceLT, Int.reduceLE, Int.reduceEq, Int.reduceToNat, Int.reduceAdd, Int.reduceSub, Int.reduceNeg]) (by simp [noref]; omega) ⟨_, _, rfl, g1, by simp only; omega⟩

theorem c_New (m : Mem) (f : Int) (g : Nat) (mo ex : Int) : ∃ v m', Go.Ev.Comes T G f_retry_New [.agg (timesE f g mo ex)] m none ⟨.val (.tuple [v, .int .i64 (if okT f g mo ex = true then 0 else 2)]), m', none⟩ ∧ Grown m m' ∧ min m.low m.bl.length ≤ m'.low ∧ isNil 1 v = some (!okT f g mo ex) := by
  suffices H : ∃ r, Go.Ev.Comes T G f_retry_New [.agg (timesE f g mo ex)] m none r ∧ ∃ v m', r = ⟨.val (.tuple [v, .int .i64 (if okT f g mo ex = true then 0 else 2)]), m', none⟩ ∧ Grown m m' ∧ min m.low m.bl.length ≤ m'.low ∧ isNil 1 v = some (!okT f g mo ex) by
    obtain ⟨r, hc, v, m', rfl, h⟩ := H
    exact ⟨v, m', hc, h⟩
  refine comes2P T_retry_New rfl fun M hg hlen hlow => ?_
  simp only [F_retry_New, timesE]
  simp +contextual only [vq, vc, ve, vv, vn, vl, ↓reduceIte, Nat.reduceEqDiff, Nat.reduceAdd, Nat.reduceMul, Nat.reduceSub, Nat.reduceLeDiff, Nat.reduceLT, Nat.reduceBEq, Nat.reduceBNe, reduceCtorEq, Int.reduceBEq, Int.reduceBNe, Int.reduceLT, Int.reduceLE, Int.reduceEq, Int.reduceToNat, Int.reduceAdd, Int.reduceSub, Int.reduceNeg]
  refine new_mk fun M1 e1 => ?_
  have g1 : Grown m M1 := hg.trans (by rw [e1]; exact Grown.rfl'.push)
  have l1 : M1.low = m.bl.length := by rw [e1]; exact hlow
  have R1 : RowIs M1 M.bl.length [.int .i64 f, .flt .f64 g, .int .i64 mo, .int .i64 ex] := by rw [e1]; exact row_push _ _
  have hc := c_retry_Check M1 f g mo ex
  simp only [timesE] at hc
  cases ho : okT f g mo ex with
  | false =>
    rw [ho] at hc
    simp +contextual only [vq, vc, ve, vv, vn, vl, ↓reduceIte, Nat.reduceEqDiff, Nat.reduceAdd, Nat.reduceMul, Nat.reduceSub, Nat.reduceLeDiff, Nat.reduceLT, Nat.reduceBEq, Nat.reduceBNe, reduceCtorEq, Int.reduceBEq, Int.reduceBNe, Int.reduceLT, Int.reduceLE, Int.reduceEq, Int.reduceToNat, Int.reduceAdd, Int.reduceSub, Int.reduceNeg, R1.getN (G := G), callR_val hc]
    exact postX_same (v := .tuple [.ptr none, .int .i64 2]) (by simp +contextual only [vq, vc, ve, vv, vn, vl, ↓reduceIte, Nat.reduceEqDiff, Nat.reduceAdd, Nat.reduceMul, Nat.reduceSub, Nat.reduceLeDiff, Nat.reduceLT, Nat.reduceBEq, Nat.reduceBNe, reduceCtorEq, Int.reduceBEq, Int.reduceBNe, Int.reduceLT, Int.reduceLE, Int.reduceEq, Int.reduceToNat, Int.reduceAdd, Int.reduceSub, Int.reduceNeg]) (by omega) (by simp [noref, norefs]) ⟨_, _, rfl, Grown.rfl', by omega, rfl⟩
  | true =>
    rw [ho] at hc
    simp +contextual only [vq, vc, ve, vv, vn, vl, ↓reduceIte, Nat.reduceEqDiff, Nat.reduceAdd, Nat.reduceMul, Nat.reduceSub, Nat.reduceLeDiff, Nat.reduceLT, Nat.reduceBEq, Nat.reduceBNe, reduceCtorEq, Int.reduceBEq, Int.reduceBNe, Int.reduceLT, Int.reduceLE, Int.reduceEq, Int.reduceToNat, Int.reduceAdd, Int.reduceSub, Int.reduceNeg, R1.getN (G := G), callR_val hc]
    refine late_mk fun M2 e2 => ?_
    have R2 : RowIs M2 M.bl.length [.int .i64 f, .flt .f64 g, .int .i64 mo, .int .i64 ex] := R1.grown (by rw [e2]; exact deadM_grown _ _)
    obtain ⟨a, M3, hn, g3, l3⟩ := c_NewHeap M2 f_retry_ahead
    have old : oldAd M1.bl.length ⟨.mem M.bl.length 0, 0⟩ = true := by
      simp only [oldAd, decide_eq_true_eq]
      have := congrArg (fun x : Mem => x.bl.length) e1
      simp [Mem.push] at this
      omega
    simp +contextual only [vq, vc, ve, vv, vn, vl, ↓reduceIte, Nat.reduceEqDiff, Nat.reduceAdd, Nat.reduceMul, Nat.reduceSub, Nat.reduceLeDiff, Nat.reduceLT, Nat.reduceBEq, Nat.reduceBNe, reduceCtorEq, Int.reduceBEq, Int.reduceBNe, Int.reduceLT, Int.reduceLE, Int.reduceEq, Int.reduceToNat, Int.reduceAdd, Int.reduceSub, Int.reduceNeg, R2.getN (G := G), old, callR_val hn]
    refine new_mk fun M4 e4 => ?_
    simp +contextual only [vq, vc, ve, vv, vn, vl, ↓reduceIte, Nat.reduceEqDiff, Nat.reduceAdd, Nat.reduceMul, Nat.reduceSub, Nat.reduceLeDiff, Nat.reduceLT, Nat.reduceBEq, Nat.reduceBNe, reduceCtorEq, Int.reduceBEq, Int.reduceBNe, Int.reduceLT, Int.reduceLE, Int.reduceEq, Int.reduceToNat, Int.reduceAdd, Int.reduceSub, Int.reduceNeg]
    have g4 : Grown M2 M4 := g3.trans (by rw [e4]; exact Grown.rfl'.push)
    obtain ⟨post, hpost⟩ := g4
    have hM4 : M4.bl = M1.bl ++ List.replicate ([Blk.map [] 0] : List Blk).length (.dead 0) ++ post := by rw [hpost, e2]; rfl
    have d1 := deadM_len M1 1
    have d2 := deadM_low M1 1
    have b3 := g3.le
    have hlow4 : M1.bl.length + ([Blk.map [] 0] : List Blk).length ≤ M4.low := by
      have : M4.low = M3.low := by rw [e4]; rfl
      have e2' : M2.low = M2.bl.length := by rw [e2]; exact deadM_low _ _
      have e2'' : M2.bl.length = M1.bl.length + 1 := by rw [e2]; exact deadM_len _ _
      simp only [List.length_cons, List.length_nil]
      omega
    refine cutL_any hM4 hlow4 fun M5 hM5 l5 => ?_
    have g5 : Grown M1 M5 := ⟨[Blk.map [] 0] ++ post, by rw [hM5, List.append_assoc]⟩
    have b1 : M1.bl.length = m.bl.length + 1 := by rw [e1]; simp [Mem.push, hlen]
    have b2 : M2.bl.length = M1.bl.length + 1 := by rw [e2]; exact deadM_len _ _
    simp +contextual only [vq, vc, ve, vv, vn, vl, ↓reduceIte, Nat.reduceEqDiff, Nat.reduceAdd, Nat.reduceMul, Nat.reduceSub, Nat.reduceLeDiff, Nat.reduceLT, Nat.reduceBEq, Nat.reduceBNe, reduceCtorEq, Int.reduceBEq, Int.reduceBNe, Int.reduceLT, Int.reduceLE, Int.reduceEq, Int.reduceToNat, Int.reduceAdd, Int.reduceSub, Int.reduceNeg, endD_new l5]
    exact postX_new (v := .tuple [.ptr (some ⟨.mem M3.bl.length 0, 0⟩), .int .i64 0]) (by simp +contextual only [vq, vc, ve, vv, vn, vl, ↓reduceIte, Nat.reduceEqDiff, Nat.reduceAdd, Nat.reduceMul, Nat.reduceSub, Nat.reduceLeDiff, Nat.reduceLT, Nat.reduceBEq, Nat.reduceBNe, reduceCtorEq, Int.reduceBEq, Int.reduceBNe, Int.reduceLT, Int.reduceLE, Int.reduceEq, Int.reduceToNat, Int.reduceAdd, Int.reduceSub, Int.reduceNeg]) (by simp [noref, norefs]; omega) ⟨_, _, rfl, g1.trans g5, by simp only; omega, rfl⟩

theorem law (m : Mem) (f : Int) (g : Nat) (mo ex n : Int) (hn1 : -9223372036854775808 ≤ n) (hn2 : n ≤ 9223372036854775807) : ∃ m' p', Go.Ev.Comes T G f_l29_RetryWaits [.agg (timesE f g mo ex), .int .i64 n] m none ⟨.val (.bool true), m', p'⟩ := by
  refine ⟨m, none, ?_⟩
  refine comes2 T_l29_RetryWaits rfl fun M hg hlen hlow => ?_
  have hl0 : m.bl.length ≤ M.low := by omega
  obtain ⟨v, M2, hN, g2, l2, hnil⟩ := c_New (M.push (.cells (timesE f g mo ex) 0 true)) f g mo ex
  have hC := fun (K : Mem) => c_retry_Check K f g mo ex
  have hC' := fun (K : Mem) => c_r29_Check K f g mo ex
  have hW := fun (K : Mem) (z : Int) (a : -9223372036854775808 ≤ z) (b : z ≤ 9223372036854775807) => c_retry_Wait K f g mo ex z a b
  have hW' := fun (K : Mem) => c_r29_Wait K f g mo ex n hn1 hn2
  simp only [timesE] at hN hC hC' hW hW'
  simp only [F_l29_RetryWaits, timesE]
  simp +contextual only [vq, vc, ve, vv, vn, vl, ↓reduceIte, Nat.reduceEqDiff, Nat.reduceAdd, Nat.reduceMul, Nat.reduceSub, Nat.reduceLeDiff, Nat.reduceLT, Nat.reduceBEq, Nat.reduceBNe, reduceCtorEq, Int.reduceBEq, Int.reduceBNe, Int.reduceLT, Int.reduceLE, Int.reduceEq, Int.reduceToNat, Int.reduceAdd, Int.reduceSub, Int.reduceNeg]
  refine new_mk fun M1 e1 => ?_
  have hN := hN
  simp only [timesE] at g2 l2
  rw [← e1] at hN g2 l2
  have R1 : RowIs M1 M.bl.length [.int .i64 f, .flt .f64 g, .int .i64 mo, .int .i64 ex] := by rw [e1]; exact row_push _ _
  have R2 := R1.grown g2
  have b1 : M1.bl.length = m.bl.length + 1 := by rw [e1]; simp [Mem.push, hlen]
  have lM1 : M1.low = m.bl.length := by rw [e1]; exact hlow
  have b2 := g2.le
  have l2' : m.bl.length ≤ M2.low := by omega
  have old : oldAd M2.bl.length ⟨.mem M.bl.length 0, 0⟩ = true := by
    simp only [oldAd, decide_eq_true_eq]
    omega
  cases ho : okT f g mo ex with
  | false =>
    simp only [ho] at hN hC hC' hnil
    have hw : waitV f g mo ex n = 0 := wait_no (by rw [ho]; simp)
    have hW1 := fun K => hW K n hn1 hn2
    simp only [hw] at hW1 hW'
    simp +contextual only [vq, vc, ve, vv, vn, vl, ↓reduceIte, Nat.reduceEqDiff, Nat.reduceAdd, Nat.reduceMul, Nat.reduceSub, Nat.reduceLeDiff, Nat.reduceLT, Nat.reduceBEq, Nat.reduceBNe, reduceCtorEq, Int.reduceBEq, Int.reduceBNe, Int.reduceLT, Int.reduceLE, Int.reduceEq, Int.reduceToNat, Int.reduceAdd, Int.reduceSub, Int.reduceNeg, R1.getN (G := G), R2.getN (G := G), old, callR_val hN, callR_val (hC _), callR_val (hC' _), callR_val (hW1 _), callR_val (hW' _), callR_val (c_l29_wakes _), hnil, l2']
  | true =>
    simp only [ho] at hN hC hC' hnil
    by_cases h1 : n < 1
    · have hw : waitV f g mo ex n = 0 := wait_no (fun h => by omega)
      have hW1 := fun K => hW K n hn1 hn2
      simp only [hw] at hW1 hW'
      simp +contextual only [vq, vc, ve, vv, vn, vl, ↓reduceIte, Nat.reduceEqDiff, Nat.reduceAdd, Nat.reduceMul, Nat.reduceSub, Nat.reduceLeDiff, Nat.reduceLT, Nat.reduceBEq, Nat.reduceBNe, reduceCtorEq, Int.reduceBEq, Int.reduceBNe, Int.reduceLT, Int.reduceLE, Int.reduceEq, Int.reduceToNat, Int.reduceAdd, Int.reduceSub, Int.reduceNeg, R1.getN (G := G), R2.getN (G := G), old, callR_val hN, callR_val (hC _), callR_val (hC' _), callR_val (hW1 _), callR_val (hW' _), callR_val (c_l29_wakes _), hnil, h1, l2']
    · have hw : waitV f g mo ex n = waitK f g mo (min (n - 1) 32).toNat := wait_yes ho (by omega)
      have hW1 := fun K => hW K n hn1 hn2
      simp only [hw] at hW1 hW'
      obtain ⟨z, hz⟩ : ∃ z, (if 4611686018427387904 < n then (4611686018427387904 : Int) else n) = z := ⟨_, rfl⟩
      have hz1 : 1 ≤ z ∧ z ≤ 4611686018427387904 ∧ z ≤ n ∧ (min (n - 1) 32 ≤ min z 32) := by
        rw [← hz]
        split <;> omega
      have w2 : IntKind.i64.wrap (z + 1) = z + 1 := wrap64 (by omega) (by omega)
      have hW2 := fun K => hW K (z + 1) (by omega) (by omega)
      have hw2 : waitV f g mo ex (z + 1) = waitK f g mo (min (z + 1 - 1) 32).toNat := wait_yes ho (by omega)
      have hW3 := fun K => hW K 1 (by omega) (by omega)
      have hw3 : waitV f g mo ex 1 = f := by
        rw [wait_yes ho (by omega)]
        exact waitK_zero ho
      simp only [hw2, hw3] at hW2 hW3
      have k1 := (waitK_bounds ho (min (n - 1) 32).toNat).1
      have k2 := (waitK_bounds ho (min (z + 1 - 1) 32).toNat).2
      have k3 : waitK f g mo (min (n - 1) 32).toNat ≤ waitK f g mo (min (z + 1 - 1) 32).toNat := waitK_mono ho (by omega)
      generalize waitK f g mo (min (n - 1) 32).toNat = wa at *
      generalize waitK f g mo (min (z + 1 - 1) 32).toNat = wb at *
      simp +contextual only [vq, vc, ve, vv, vn, vl, ↓reduceIte, Nat.reduceEqDiff, Nat.reduceAdd, Nat.reduceMul, Nat.reduceSub, Nat.reduceLeDiff, Nat.reduceLT, Nat.reduceBEq, Nat.reduceBNe, reduceCtorEq, Int.reduceBEq, Int.reduceBNe, Int.reduceLT, Int.reduceLE, Int.reduceEq, Int.reduceToNat, Int.reduceAdd, Int.reduceSub, Int.reduceNeg, R1.getN (G := G), R2.getN (G := G), R2.get (G := G), old, callR_val hN, callR_val (hC _), callR_val (hC' _), callR_val (hW1 _), callR_val (hW' _), callR_val (c_l29_wakes _), hnil, h1, hz, w2, callR_val (hW2 _), callR_val (hW3 _), k1, k2, k3, l2']
theorem sits_times {N : Nat} {m : Mem} {ys : List EV} (h : Sits N m (.struct [.int .i64, .flt .f64, .int .i64, .int .i64]) ys) : ∃ f g mo ex, ys = timesE f g mo ex := by
  obtain ⟨a, b, rfl, _, h1, h⟩ := sits_cons (sits_struct h)
  obtain ⟨a2, b2, rfl, _, h2, h⟩ := sits_cons h
  obtain ⟨a3, b3, rfl, _, h3, h⟩ := sits_cons h
  obtain ⟨a4, b4, rfl, _, h4, h⟩ := sits_cons h
  have h5 := sits_nil h
  obtain ⟨f, rfl, _⟩ := sits_int h1
  obtain ⟨g, rfl, _⟩ := sits_flt h2
  obtain ⟨mo, rfl, _⟩ := sits_int h3
  obtain ⟨ex, rfl, _⟩ := sits_int h4
  subst h5
  exact ⟨f, g, mo, ex, rfl⟩
theorem lawAll (m : Mem) (xs : List EV) (hro : RO m) (hs : SitArgs 1048576 m [.struct [.int .i64, .flt .f64, .int .i64, .int .i64], .int .i64] xs) : ∃ m' p', Go.Ev.Comes T G f_l29_RetryWaits xs m none ⟨.val (.bool true), m', p'⟩ := by
  obtain ⟨ys, r, rfl, h1, _, ys2, r2, rfl, h2, _, rfl⟩ := hs
  obtain ⟨f, g, mo, ex, rfl⟩ := sits_times h1
  obtain ⟨n, rfl, hn1, hn2⟩ := sits_int h2
  exact law m f g mo ex n (by simpa [IntKind.min, IntKind.signed, IntKind.bits] using hn1) (by simpa [IntKind.max, IntKind.signed, IntKind.bits] using hn2)
end Go.Proofs.YthmmoahdobpfoaaGreatDoor.retryWaits
