/- A part of the proof of the statement that this claim hands in: what single functions come to. There are no conditions. -/
import Derived.Test.YtmjoaiccbghijaaDoorRcFuns
import Derived.Test.YtmjoaiccbghijaaDoorRcEv29
import Derived.Test.YtmjoaiccbghijaaDoorRcEv33
set_option linter.unusedVariables false
set_option linter.unusedSimpArgs false
set_option linter.unusedSectionVars false
namespace Go.Proofs.YtmjoaiccbghijaaDoor.paramRcpts
open Go.Ev hiding Comes
/-- The table of octet: class, first byte, last byte. -/
def tab : List (Int × Nat × Nat) := [(1, 65, 90), (1, 97, 122), (2, 48, 57), (3, 65, 90), (3, 97, 122), (3, 48, 57), (4, 48, 57), (4, 65, 70), (4, 97, 102), (5, 33, 33), (5, 35, 39), (5, 42, 43), (5, 45, 45), (5, 47, 47), (5, 61, 61), (5, 63, 63), (5, 94, 96), (5, 123, 126), (6, 32, 33), (6, 35, 91), (6, 93, 126), (7, 33, 90), (7, 94, 126), (8, 33, 60), (8, 62, 126), (9, 33, 42), (9, 44, 60), (9, 62, 126), (10, 45, 45), (11, 33, 57), (11, 59, 126), (12, 9, 9), (12, 32, 126), (13, 0, 127), (14, 128, 255)]
def tabCells (x : Int × Nat × Nat) : List EV := [.int .i64 x.1, .int .u8 (x.2.1 : Nat), .int .u8 (x.2.2 : Nat)]
def tabRow : List EV := (tab.map tabCells).flatten
/-- What the package-level variables hold that are read: the table of octet. -/
class GG where
  g : Globs
  tab : g g_octet_stretches = some tabRow
def G [GG] : Globs := GG.g
theorem g_tab [GG] : G g_octet_stretches = some tabRow := GG.tab
def tabG : Globs := fun g => if g = g_octet_stretches then some tabRow else none
instance tabGG : GG := ⟨tabG, if_pos rfl⟩
end Go.Proofs.YtmjoaiccbghijaaDoor.paramRcpts

namespace Go.Proofs.YtmjoaiccbghijaaDoor.paramRcpts
open Go.Ev hiding Comes

def hit (c : Int) (b : Nat) (x : Int × Nat × Nat) : Bool := (x.1 == c) && (decide (x.2.1 ≤ b) && decide (b ≤ x.2.2))
def isT (c : Int) (b : Nat) : Bool := tab.any (hit c b)
/-- Is a byte of a class? -/
def isF (c : Int) (b : Nat) : Bool := isT c b || ((c == 5 || c == 10) && isT 3 b)
/-- How many bytes at the beginning are of a class. -/
def sp (c : Int) (s : List UInt8) : Nat := (s.takeWhile fun b => isF c b.toNat).length
theorem sp_le (c : Int) (s : List UInt8) : sp c s ≤ s.length := tw_le s
/-- A byte as a capital. -/
def up (b : UInt8) : UInt8 := if 97 ≤ b.toNat ∧ b.toNat ≤ 122 then b - 32 else b
def upS (s : List UInt8) : List UInt8 := s.map up
/-- The same but for capitals. -/
def sameU (a b : List UInt8) : Bool := upS a == upS b
end Go.Proofs.YtmjoaiccbghijaaDoor.paramRcpts

namespace Go.Proofs.YtmjoaiccbghijaaDoor.paramRcpts
open Go.Ev hiding Comes

/-- A digit to the base sixteen, of capital letters. -/
def capB (b : UInt8) : Bool := isF 4 b.toNat && decide (b.toNat < 97)
def hexV (b : UInt8) : Nat := if b.toNat < 65 then b.toNat - 48 else b.toNat - 55
def capAt (s : List UInt8) (k : Nat) : Bool := match s[k]? with
  | none => false
  | some b => capB b
def hxAt (s : List UInt8) (k : Nat) : Nat := hexV (s.getD k 0)
/-- What an xtext says from a place on, behind what was read: the bytes; the error and its place. -/
def unx (s : List UInt8) : Nat → Nat → List UInt8 → List UInt8 × Int × Int
  | 0, _, o => (o, 0, 0)
  | f + 1, i, o => match s[i]? with
    | none => (o, 0, 0)
    | some b =>
      if isF 9 b.toNat = true then unx s f (i + 1) (o ++ [b])
      else if b ≠ 43 then ([], 104, (i : Int))
      else if capAt s (i + 1) = false then ([], 104, ((i + 1 : Nat) : Int))
      else if capAt s (i + 2) = false then ([], 104, ((i + 2 : Nat) : Int))
      else unx s f (i + 3) (o ++ [UInt8.ofNat (16 * hxAt s (i + 1) + hxAt s (i + 2))])
def unxS (s : List UInt8) : List UInt8 × Int × Int := unx s (s.length + 1) 0 []
theorem unx_end {s : List UInt8} {f i : Nat} {o : List UInt8} (h : s.length ≤ i) : unx s f i o = (o, 0, 0) := by
  cases f with
  | zero => rfl
  | succ f => rw [unx, List.getElem?_eq_none h]
theorem unx_see {s : List UInt8} {f i : Nat} {o : List UInt8} (h : i < s.length) (hb : isF 9 s[i].toNat = true) : unx s (f + 1) i o = unx s f (i + 1) (o ++ [s[i]]) := by
  rw [unx, List.getElem?_eq_getElem h]
  simp only [hb, if_true]
theorem unx_not {s : List UInt8} {f i : Nat} {o : List UInt8} (h : i < s.length) (hb : isF 9 s[i].toNat = false) (h43 : s[i] ≠ 43) : unx s (f + 1) i o = ([], 104, (i : Int)) := by
  rw [unx, List.getElem?_eq_getElem h]
  simp only [hb, Bool.false_eq_true, if_false, ne_eq, h43, not_false_eq_true, if_true]
theorem not43 : isF 9 (43 : UInt8).toNat = false := by decide +kernel
theorem unx_bad {s : List UInt8} {f i k : Nat} {o : List UInt8} (h : i < s.length) (h43 : s[i] = 43) (hk : 1 ≤ k ∧ k ≤ 2) (hb : ∀ j, 1 ≤ j → j < k → capAt s (i + j) = true) (hno : capAt s (i + k) = false) : unx s (f + 1) i o = ([], 104, ((i + k : Nat) : Int)) := by
  rw [unx, List.getElem?_eq_getElem h]
  simp only [h43, not43, Bool.false_eq_true, if_false, ne_eq, not_true_eq_false]
  by_cases h1 : k = 1
  · subst h1
    rw [if_pos hno]
  · have h2 : k = 2 := by omega
    subst h2
    have := hb 1 (by omega) (by omega)
    rw [if_neg (by rw [this]; simp), if_pos hno]
theorem unx_good {s : List UInt8} {f i : Nat} {o : List UInt8} (h : i < s.length) (h43 : s[i] = 43) (h1 : capAt s (i + 1) = true) (h2 : capAt s (i + 2) = true) : unx s (f + 1) i o = unx s f (i + 3) (o ++ [UInt8.ofNat (16 * hxAt s (i + 1) + hxAt s (i + 2))]) := by
  rw [unx, List.getElem?_eq_getElem h]
  simp only [h43, not43, Bool.false_eq_true, if_false, ne_eq, not_true_eq_false, h1, h2]
  simp
theorem capAt_get {s : List UInt8} {k : Nat} (h : k < s.length) : capAt s k = capB s[k] := by
  unfold capAt
  rw [List.getElem?_eq_getElem h]
theorem capAt_none {s : List UInt8} {k : Nat} (h : s.length ≤ k) : capAt s k = false := by
  unfold capAt
  rw [List.getElem?_eq_none h]
theorem capAt_lt {s : List UInt8} {k : Nat} (h : capAt s k = true) : ∃ hk : k < s.length, capB s[k] = true ∧ hxAt s k = hexV s[k] := by
  by_cases hk : k < s.length
  · rw [capAt_get hk] at h
    refine ⟨hk, h, ?_⟩
    simp only [hxAt, List.getD_eq_getElem?_getD, List.getElem?_eq_getElem hk, Option.getD_some]
  · rw [capAt_none (by omega)] at h
    cases h
theorem capB_lt : ∀ b : UInt8, capB b = true → hexV b < 16 := by decide +kernel
theorem unx_len (s : List UInt8) : ∀ (f i : Nat) (o : List UInt8), i ≤ s.length → (unx s f i o).1.length ≤ o.length + (s.length - i)
  | 0, i, o, h => by simp [unx]
  | f + 1, i, o, h => by
    rw [unx]
    split
    · simp
    · rename_i b hb
      have hi := (List.getElem?_eq_some_iff.1 hb).1
      split
      · have := unx_len s f (i + 1) (o ++ [b]) (by omega)
        simp at this
        omega
      split
      · simp
      split
      · simp
      split
      · simp
      · rename_i h1 h2
        obtain ⟨hk, _⟩ := capAt_lt (s := s) (k := i + 2) (by simpa using h2)
        have := unx_len s f (i + 3) (o ++ [UInt8.ofNat (16 * hxAt s (i + 1) + hxAt s (i + 2))]) (by omega)
        simp only [List.length_append, List.length_singleton] at this
        omega
theorem unxS_len (s : List UInt8) : (unxS s).1.length ≤ s.length := by
  have := unx_len s (s.length + 1) 0 [] (by omega)
  unfold unxS
  simp only [List.length_nil] at this
  omega
/-- A shown text of one byte or more. -/
def shownS (s : List UInt8) : Bool := s != [] && s.all fun b => decide (32 ≤ b.toNat) && decide (b.toNat ≤ 126)
end Go.Proofs.YtmjoaiccbghijaaDoor.paramRcpts

namespace Go.Proofs.YtmjoaiccbghijaaDoor.paramRcpts
open Go.Ev hiding Comes


/-- A reader of UTF-8 takes a byte: may it stand there, and where the reader stands behind it. -/
def tkLo (b : Nat) : Nat := if b = 224 then 160 else if b = 240 then 144 else 128
def tkHi (b : Nat) : Nat := if b = 237 then 159 else if b = 244 then 143 else 191
def tk (need lo hi b : Nat) : Bool × Nat × Nat × Nat :=
  if 0 < need then (if b < lo ∨ hi < b then (false, need, lo, hi) else (true, need - 1, 128, 191))
  else if b < 128 then (true, 0, 128, 191) else if b < 194 ∨ 244 < b then (false, 0, 128, 191)
  else (true, (if b < 224 then 1 else if b < 240 then 2 else 3), tkLo b, tkHi b)
def stE (st : Nat × Nat × Nat) : List EV := [.int .u8 (st.1 : Nat), .int .u8 (st.2.1 : Nat), .int .u8 (st.2.2 : Nat)]

/-- What the first byte of n has at its top. -/
def leadZ (n : Nat) : Int := [0, 0, 192, 224, 240].getD n 0
/-- Is a number a rune? -/
def isR (r : Int) : Bool := (decide (0 ≤ r) && decide (r ≤ 1114111)) && (decide (r < 55296) || decide (57343 < r))


/-! The plain law of UTF-8: how many bytes the well-formed rune at the head of a row has, by a reader's steps and by writing the rune. -/
def inr (lo hi : Nat) (b : UInt8) : Bool := decide (lo ≤ b.toNat) && decide (b.toNat ≤ hi)
/-- How many bytes the rune at the head has; 0: there is none. -/
def wf : List UInt8 → Nat
  | [] => 0
  | b :: r =>
    if b.toNat < 128 then 1
    else if b.toNat < 194 ∨ 244 < b.toNat then 0
    else if b.toNat < 224 then (match r with
      | c :: _ => if inr 128 191 c then 2 else 0
      | [] => 0)
    else if b.toNat < 240 then (match r with
      | c :: d :: _ => if inr (tkLo b.toNat) (tkHi b.toNat) c && inr 128 191 d then 3 else 0
      | _ => 0)
    else (match r with
      | c :: d :: e :: _ => if inr (tkLo b.toNat) (tkHi b.toNat) c && (inr 128 191 d && inr 128 191 e) then 4 else 0
      | _ => 0)
/-- How long the longest well-formed beginning is. -/
def good : Nat → List UInt8 → Nat
  | 0, _ => 0
  | f + 1, l => match wf l with
    | 0 => 0
    | n + 1 => n + 1 + good f (l.drop (n + 1))
/-- The reader, byte by byte. -/
def pb (bg i n lo hi : Nat) : List UInt8 → Nat
  | [] => if 0 < n then bg else i
  | b :: r => if (tk n lo hi b.toNat).1 = true then pb (if n = 0 then i else bg) (i + 1) (tk n lo hi b.toNat).2.1 (tk n lo hi b.toNat).2.2.1 (tk n lo hi b.toNat).2.2.2 r else (if n = 0 then i else bg)

theorem tk_more {n lo hi b : Nat} (hn : 0 < n) : tk n lo hi b = if b < lo ∨ hi < b then (false, n, lo, hi) else (true, n - 1, 128, 191) := by
  unfold tk
  rw [if_pos hn]
theorem pb_in {bg i n lo hi : Nat} {c : UInt8} {r : List UInt8} (h : inr lo hi c = true) : pb bg i (n + 1) lo hi (c :: r) = pb bg (i + 1) n 128 191 r := by
  have : ¬ (c.toNat < lo ∨ hi < c.toNat) := by simp [inr] at h; omega
  simp only [pb, tk_more (n := n + 1) (by omega), if_neg this, if_true, Nat.add_sub_cancel, Nat.add_one_ne_zero, if_false]
theorem pb_out {bg i n lo hi : Nat} {c : UInt8} {r : List UInt8} (h : inr lo hi c = false) : pb bg i (n + 1) lo hi (c :: r) = bg := by
  have : c.toNat < lo ∨ hi < c.toNat := by simp [inr] at h; omega
  simp only [pb, tk_more (n := n + 1) (by omega), if_pos this, Bool.false_eq_true, if_false, Nat.add_one_ne_zero]
theorem pb_nil {bg i n lo hi : Nat} : pb bg i (n + 1) lo hi [] = bg := by simp [pb]

theorem pb_good : ∀ (f : Nat) (l : List UInt8) (bg i lo hi : Nat), l.length ≤ f → pb bg i 0 lo hi l = i + good f l
  | f, [], bg, i, lo, hi, _ => by cases f <;> simp [pb, good, wf]
  | 0, b :: r, _, _, _, _, h => by simp at h
  | f + 1, b :: r, bg, i, lo, hi, h => by
    have hr : r.length ≤ f := by simpa using h
    have t0 : tk 0 lo hi b.toNat = if b.toNat < 128 then (true, 0, 128, 191) else if b.toNat < 194 ∨ 244 < b.toNat then (false, 0, 128, 191)
      else (true, (if b.toNat < 224 then 1 else if b.toNat < 240 then 2 else 3), tkLo b.toNat, tkHi b.toNat) := rfl
    by_cases h1 : b.toNat < 128
    · rw [if_pos h1] at t0
      simp only [pb, t0, if_true, good, wf, if_pos h1, List.drop_succ_cons, List.drop_zero]
      rw [pb_good f r i (i + 1) _ _ hr]
      omega
    · rw [if_neg h1] at t0
      by_cases h2 : b.toNat < 194 ∨ 244 < b.toNat
      · rw [if_pos h2] at t0
        simp only [pb, t0, Bool.false_eq_true, if_false, if_true, good, wf, if_neg h1, if_pos h2]
        omega
      · rw [if_neg h2] at t0
        by_cases h3 : b.toNat < 224
        · rw [if_pos h3] at t0
          have hlo : tkLo b.toNat = 128 := by unfold tkLo; rw [if_neg (by omega), if_neg (by omega)]
          have hhi : tkHi b.toNat = 191 := by unfold tkHi; rw [if_neg (by omega), if_neg (by omega)]
          rw [hlo, hhi] at t0
          simp only [pb, t0, if_true]
          cases r with
          | nil => simp [pb, good, wf, h1, h2, h3]
          | cons c r =>
            simp only [good, wf, if_neg h1, if_neg h2, if_pos h3]
            cases hc : inr 128 191 c with
            | true =>
              rw [pb_in (n := 0) hc, pb_good f r i (i + 1 + 1) _ _ (by simp at hr; omega)]
              simp only [if_true, List.drop_succ_cons, List.drop_zero]
              omega
            | false =>
              rw [pb_out (n := 0) hc]
              simp
        · rw [if_neg h3] at t0
          by_cases h4 : b.toNat < 240
          · rw [if_pos h4] at t0
            simp only [pb, t0, if_true]
            cases r with
            | nil => simp [pb, good, wf, h1, h2, h3, h4]
            | cons c r =>
              cases hc : inr (tkLo b.toNat) (tkHi b.toNat) c with
              | false =>
                rw [pb_out (n := 1) hc]
                cases r <;> simp [good, wf, h1, h2, h3, h4, hc]
              | true =>
                rw [pb_in (n := 1) hc]
                cases r with
                | nil => simp [pb, good, wf, h1, h2, h3, h4]
                | cons d r =>
                  simp only [good, wf, if_neg h1, if_neg h2, if_neg h3, if_pos h4, hc, Bool.true_and]
                  cases hd : inr 128 191 d with
                  | true =>
                    rw [pb_in (n := 0) hd, pb_good f r i (i + 1 + 1 + 1) _ _ (by simp at hr; omega)]
                    simp only [if_true, List.drop_succ_cons, List.drop_zero]
                    omega
                  | false =>
                    rw [pb_out (n := 0) hd]
                    simp
          · rw [if_neg h4] at t0
            simp only [pb, t0, if_true]
            cases r with
            | nil => simp [pb, good, wf, h1, h2, h3, h4]
            | cons c r =>
              cases hc : inr (tkLo b.toNat) (tkHi b.toNat) c with
              | false =>
                rw [pb_out (n := 2) hc]
                rcases r with _ | ⟨d, _ | ⟨e, r⟩⟩ <;> simp [good, wf, h1, h2, h3, h4, hc]
              | true =>
                rw [pb_in (n := 2) hc]
                cases r with
                | nil => simp [pb, good, wf, h1, h2, h3, h4]
                | cons d r =>
                  cases hd : inr 128 191 d with
                  | false =>
                    rw [pb_out (n := 1) hd]
                    cases r <;> simp [good, wf, h1, h2, h3, h4, hc, hd]
                  | true =>
                    rw [pb_in (n := 1) hd]
                    cases r with
                    | nil => simp [pb, good, wf, h1, h2, h3, h4]
                    | cons e r =>
                      simp only [good, wf, if_neg h1, if_neg h2, if_neg h3, if_neg h4, hc, hd, Bool.true_and]
                      cases he : inr 128 191 e with
                      | true =>
                        rw [pb_in (n := 0) he, pb_good f r i (i + 1 + 1 + 1 + 1) _ _ (by simp at hr; omega)]
                        simp only [if_true, List.drop_succ_cons, List.drop_zero]
                        omega
                      | false =>
                        rw [pb_out (n := 0) he]
                        simp

/-- The number that bytes make. -/
def madeX (l : List UInt8) : Int := match l with
  | [] => 0
  | b :: r => r.foldl (fun x c => 64 * x + (c.toNat : Int) - 128) ((b.toNat : Int) - leadZ l.length)
/-- The bytes of a rune. -/
def bt (z : Int) : UInt8 := UInt8.ofNat z.toNat
def wr (x : Int) : List UInt8 :=
  if x < 128 then [bt x] else if x < 2048 then [bt (192 + x / 64), bt (128 + x % 64)]
  else if x < 65536 then [bt (224 + x / 4096), bt (128 + x / 64 % 64), bt (128 + x % 64)]
  else [bt (240 + x / 262144), bt (128 + x / 4096 % 64), bt (128 + x / 64 % 64), bt (128 + x % 64)]
def madeOk (l : List UInt8) : Bool := isR (madeX l) && (wr (madeX l) == l)

theorem bt_eq {z : Int} {a : UInt8} (h0 : 0 ≤ z) (h1 : z < 256) : (bt z = a) ↔ z = (a.toNat : Int) := by
  constructor
  · rintro rfl
    simp only [bt, UInt8.toNat_ofNat']
    omega
  · intro h
    apply UInt8.toNat_inj.1
    simp only [bt, UInt8.toNat_ofNat']
    omega
theorem isR_iff (x : Int) : isR x = true ↔ (0 ≤ x ∧ x ≤ 1114111) ∧ (x < 55296 ∨ 57343 < x) := by
  simp [isR]

theorem lo_iff (a b : Nat) : tkLo a ≤ b ↔ (a = 224 → 160 ≤ b) ∧ (a = 240 → 144 ≤ b) ∧ 128 ≤ b := by
  unfold tkLo
  split
  · omega
  · split <;> omega
theorem hi_iff (a b : Nat) : b ≤ tkHi a ↔ (a = 237 → b ≤ 159) ∧ (a = 244 → b ≤ 143) ∧ b ≤ 191 := by
  unfold tkHi
  split
  · omega
  · split <;> omega

theorem made1 (a : UInt8) : madeOk [a] = decide (a.toNat < 128) := by
  have ha := a.toNat_lt
  rw [Bool.eq_iff_iff, decide_eq_true_eq]
  simp only [madeOk, Bool.and_eq_true, isR_iff, beq_iff_eq, madeX, List.foldl_nil, List.length_cons, List.length_nil, leadZ, List.getD]
  simp only [show ([0, 0, 192, 224, 240] : List Int)[0 + 1]?.getD 0 = 0 from rfl, Int.sub_zero]
  constructor
  · rintro ⟨_, h⟩
    unfold wr at h
    split at h
    · omega
    · split at h
      · simp at h
      · split at h <;> simp at h
  · intro h
    refine ⟨by omega, ?_⟩
    unfold wr
    rw [if_pos (by omega)]
    simp only [List.cons.injEq, and_true]
    rw [bt_eq (by omega) (by omega)]

theorem made2 (a b : UInt8) : madeOk [a, b] = (decide (194 ≤ a.toNat ∧ a.toNat < 224) && inr 128 191 b) := by
  have ha := a.toNat_lt
  have hb := b.toNat_lt
  rw [Bool.eq_iff_iff]
  simp only [madeOk, Bool.and_eq_true, isR_iff, beq_iff_eq, madeX, List.foldl_nil, List.foldl_cons, List.length_cons, List.length_nil, leadZ, List.getD, inr, decide_eq_true_eq]
  simp only [show ([0, 0, 192, 224, 240] : List Int)[0 + 1 + 1]?.getD 0 = 192 from rfl]
  generalize hx : 64 * ((a.toNat : Int) - 192) + (b.toNat : Int) - 128 = x
  constructor
  · rintro ⟨hr, h⟩
    unfold wr at h
    split at h
    · simp at h
    · split at h
      · simp only [List.cons.injEq, and_true] at h
        rw [bt_eq (by omega) (by omega), bt_eq (by omega) (by omega)] at h
        omega
      · split at h <;> simp at h
  · intro h
    refine ⟨by omega, ?_⟩
    unfold wr
    rw [if_neg (by omega), if_pos (by omega)]
    simp only [List.cons.injEq, and_true]
    rw [bt_eq (by omega) (by omega), bt_eq (by omega) (by omega)]
    omega

theorem made3 (a b c : UInt8) : madeOk [a, b, c] = (decide (224 ≤ a.toNat ∧ a.toNat < 240) && (inr (tkLo a.toNat) (tkHi a.toNat) b && inr 128 191 c)) := by
  have ha := a.toNat_lt
  have hb := b.toNat_lt
  have hc := c.toNat_lt
  rw [Bool.eq_iff_iff]
  simp only [madeOk, Bool.and_eq_true, isR_iff, beq_iff_eq, madeX, List.foldl_nil, List.foldl_cons, List.length_cons, List.length_nil, leadZ, List.getD, inr, decide_eq_true_eq, lo_iff, hi_iff]
  simp only [show ([0, 0, 192, 224, 240] : List Int)[0 + 1 + 1 + 1]?.getD 0 = 224 from rfl]
  generalize hx : 64 * (64 * ((a.toNat : Int) - 224) + (b.toNat : Int) - 128) + (c.toNat : Int) - 128 = x
  constructor
  · rintro ⟨hr, h⟩
    unfold wr at h
    split at h
    · simp at h
    · split at h
      · simp at h
      · split at h
        · simp only [List.cons.injEq, and_true] at h
          rw [bt_eq (by omega) (by omega), bt_eq (by omega) (by omega), bt_eq (by omega) (by omega)] at h
          omega
        · simp at h
  · intro h
    refine ⟨by omega, ?_⟩
    unfold wr
    rw [if_neg (by omega), if_neg (by omega), if_pos (by omega)]
    simp only [List.cons.injEq, and_true]
    rw [bt_eq (by omega) (by omega), bt_eq (by omega) (by omega), bt_eq (by omega) (by omega)]
    omega

theorem made4 (a b c d : UInt8) : madeOk [a, b, c, d] = (decide (240 ≤ a.toNat ∧ a.toNat < 245) && (inr (tkLo a.toNat) (tkHi a.toNat) b && (inr 128 191 c && inr 128 191 d))) := by
  have ha := a.toNat_lt
  have hb := b.toNat_lt
  have hc := c.toNat_lt
  have hd := d.toNat_lt
  rw [Bool.eq_iff_iff]
  simp only [madeOk, Bool.and_eq_true, isR_iff, beq_iff_eq, madeX, List.foldl_nil, List.foldl_cons, List.length_cons, List.length_nil, leadZ, List.getD, inr, decide_eq_true_eq, lo_iff, hi_iff]
  simp only [show ([0, 0, 192, 224, 240] : List Int)[0 + 1 + 1 + 1 + 1]?.getD 0 = 240 from rfl]
  generalize hx : 64 * (64 * (64 * ((a.toNat : Int) - 240) + (b.toNat : Int) - 128) + (c.toNat : Int) - 128) + (d.toNat : Int) - 128 = x
  constructor
  · rintro ⟨hr, h⟩
    unfold wr at h
    split at h
    · simp at h
    · split at h
      · simp at h
      · split at h
        · simp at h
        · simp only [List.cons.injEq, and_true] at h
          rw [bt_eq (by omega) (by omega), bt_eq (by omega) (by omega), bt_eq (by omega) (by omega), bt_eq (by omega) (by omega)] at h
          omega
  · intro h
    refine ⟨by omega, ?_⟩
    unfold wr
    rw [if_neg (by omega), if_neg (by omega), if_neg (by omega)]
    simp only [List.cons.injEq, and_true]
    rw [bt_eq (by omega) (by omega), bt_eq (by omega) (by omega), bt_eq (by omega) (by omega), bt_eq (by omega) (by omega)]
    omega

/-- Each length is the right one, or none. -/
theorem made_wf (l : List UInt8) (n : Nat) (h1 : 1 ≤ n) (h4 : n ≤ 4) (hl : n ≤ l.length) : madeOk (l.take n) = decide (wf l = n) := by
  match l, hl with
  | [], hl => simp at hl; omega
  | a :: r, hl =>
    have ha := a.toNat_lt
    have hn : n = 1 ∨ n = 2 ∨ n = 3 ∨ n = 4 := by omega
    rcases hn with rfl | rfl | rfl | rfl
    · simp only [List.take_succ_cons, List.take_zero, made1]
      rw [Bool.eq_iff_iff, decide_eq_true_eq, decide_eq_true_eq]
      unfold wf
      repeat' split
      all_goals simp_all
    · match r, hl with
      | [], hl => simp at hl
      | b :: r, hl =>
        simp only [List.take_succ_cons, List.take_zero, made2]
        rw [Bool.eq_iff_iff, decide_eq_true_eq, Bool.and_eq_true, decide_eq_true_eq]
        by_cases h1 : a.toNat < 128
        · simp only [wf, if_pos h1]; exact ⟨fun h => by omega, fun h => by omega⟩
        by_cases h2 : a.toNat < 194 ∨ 244 < a.toNat
        · simp only [wf, if_neg h1, if_pos h2]; exact ⟨fun h => by omega, fun h => by omega⟩
        by_cases h3 : a.toNat < 224
        · simp only [wf, if_neg h1, if_neg h2, if_pos h3]
          cases inr 128 191 b
          · exact ⟨fun h => by simp at h, fun h => by simp at h⟩
          · exact ⟨fun h => rfl, fun h => ⟨by omega, rfl⟩⟩
        refine ⟨fun h => by omega, fun h => ?_⟩
        exfalso
        by_cases h4 : a.toNat < 240
        · rcases r with _ | ⟨c, r⟩ <;> simp only [wf, if_neg h1, if_neg h2, if_neg h3, if_pos h4] at h
          · omega
          · split at h <;> omega
        · rcases r with _ | ⟨c, _ | ⟨d, r⟩⟩ <;> simp only [wf, if_neg h1, if_neg h2, if_neg h3, if_neg h4] at h
          · omega
          · omega
          · split at h <;> omega
    · match r, hl with
      | [], hl => simp at hl
      | [b], hl => simp at hl
      | b :: c :: r, hl =>
        simp only [List.take_succ_cons, List.take_zero, made3]
        rw [Bool.eq_iff_iff, decide_eq_true_eq, Bool.and_eq_true, decide_eq_true_eq]
        by_cases h1 : a.toNat < 128
        · simp only [wf, if_pos h1]; exact ⟨fun h => by omega, fun h => by omega⟩
        by_cases h2 : a.toNat < 194 ∨ 244 < a.toNat
        · simp only [wf, if_neg h1, if_pos h2]; exact ⟨fun h => by omega, fun h => by omega⟩
        by_cases h3 : a.toNat < 224
        · simp only [wf, if_neg h1, if_neg h2, if_pos h3]
          exact ⟨fun h => by omega, fun h => by split at h <;> omega⟩
        by_cases h4 : a.toNat < 240
        · simp only [wf, if_neg h1, if_neg h2, if_neg h3, if_pos h4]
          cases inr (tkLo a.toNat) (tkHi a.toNat) b && inr 128 191 c
          · exact ⟨fun h => by simp at h, fun h => by simp at h⟩
          · exact ⟨fun h => rfl, fun h => ⟨by omega, rfl⟩⟩
        refine ⟨fun h => by omega, fun h => ?_⟩
        exfalso
        rcases r with _ | ⟨d, r⟩ <;> simp only [wf, if_neg h1, if_neg h2, if_neg h3, if_neg h4] at h
        · omega
        · split at h <;> omega
    · match r, hl with
      | [], hl => simp at hl
      | [b], hl => simp at hl
      | [b, c], hl => simp at hl
      | b :: c :: d :: r, hl =>
        simp only [List.take_succ_cons, List.take_zero, made4]
        rw [Bool.eq_iff_iff, decide_eq_true_eq, Bool.and_eq_true, decide_eq_true_eq]
        by_cases h1 : a.toNat < 128
        · simp only [wf, if_pos h1]; exact ⟨fun h => by omega, fun h => by omega⟩
        by_cases h2 : a.toNat < 194 ∨ 244 < a.toNat
        · simp only [wf, if_neg h1, if_pos h2]; exact ⟨fun h => by omega, fun h => by omega⟩
        by_cases h3 : a.toNat < 224
        · simp only [wf, if_neg h1, if_neg h2, if_pos h3]
          exact ⟨fun h => by omega, fun h => by split at h <;> omega⟩
        by_cases h4 : a.toNat < 240
        · simp only [wf, if_neg h1, if_neg h2, if_neg h3, if_pos h4]
          exact ⟨fun h => by omega, fun h => by split at h <;> omega⟩
        simp only [wf, if_neg h1, if_neg h2, if_neg h3, if_neg h4]
        cases inr (tkLo a.toNat) (tkHi a.toNat) b && (inr 128 191 c && inr 128 191 d)
        · exact ⟨fun h => by simp at h, fun h => by simp at h⟩
        · exact ⟨fun h => rfl, fun h => ⟨by omega, rfl⟩⟩


/-- What the first k bytes make, if there are n. -/
def madeK (l : List UInt8) (k : Nat) : Int := match l with
  | [] => 0
  | b :: r => (r.take k).foldl (fun x c => 64 * x + (c.toNat : Int) - 128) ((b.toNat : Int) - leadZ l.length)
theorem madeK_end (l : List UInt8) : madeK l (l.length - 1) = madeX l := by
  cases l with
  | nil => rfl
  | cons b r => simp [madeK, madeX]
theorem madeK_next {l : List UInt8} {k : Nat} (h : k + 1 < l.length) : madeK l (k + 1) = 64 * madeK l k + (l[k + 1].toNat : Int) - 128 := by
  cases l with
  | nil => simp at h
  | cons b r =>
    have hk : k < r.length := by simpa using h
    simp only [madeK]
    rw [List.take_succ_eq_append_getElem hk, List.foldl_append]
    rfl
theorem lead_le (n : Nat) : 0 ≤ leadZ n ∧ leadZ n ≤ 240 := by
  unfold leadZ
  match n with
  | 0 | 1 | 2 | 3 | 4 => decide
  | n + 5 => simp
theorem fold_bound : ∀ (l : List UInt8) (x K : Int), -K ≤ x → x ≤ K → 0 ≤ K → l.length ≤ 4 →
    -(64 ^ l.length * (K + 300)) ≤ l.foldl (fun x c => 64 * x + (c.toNat : Int) - 128) x ∧ l.foldl (fun x c => 64 * x + (c.toNat : Int) - 128) x ≤ 64 ^ l.length * (K + 300) := by
  intro l
  match l with
  | [] => intro x K h1 h2 h3 h4; simp; omega
  | [a] => intro x K h1 h2 h3 h4; have := a.toNat_lt; simp; omega
  | [a, b] => intro x K h1 h2 h3 h4; have := a.toNat_lt; have := b.toNat_lt; simp; omega
  | [a, b, c] => intro x K h1 h2 h3 h4; have := a.toNat_lt; have := b.toNat_lt; have := c.toNat_lt; simp; omega
  | [a, b, c, d] => intro x K h1 h2 h3 h4; have := a.toNat_lt; have := b.toNat_lt; have := c.toNat_lt; have := d.toNat_lt; simp; omega
  | a :: b :: c :: d :: e :: r => intro x K h1 h2 h3 h4; simp at h4
theorem madeK_small {l : List UInt8} (h : l.length ≤ 4) (k : Nat) : -200000000 ≤ madeK l k ∧ madeK l k ≤ 200000000 := by
  cases l with
  | nil => simp [madeK]
  | cons b r =>
    have hb := b.toNat_lt
    have hl := lead_le (b :: r).length
    have hr : r.length ≤ 3 := by simpa using h
    have ht : (r.take k).length ≤ 3 := by simp; omega
    have := fold_bound (r.take k) ((b.toNat : Int) - leadZ (b :: r).length) 255 (by omega) (by omega) (by omega) (by omega)
    simp only [madeK]
    have h64 : (64 : Int) ^ (r.take k).length ≤ 262144 := by
      have : ∀ n : Nat, n ≤ 3 → (64 : Int) ^ n ≤ 262144 := by decide
      exact this _ ht
    have h65 : (64 : Int) ^ (r.take k).length * (255 + 300) ≤ 262144 * 555 := Int.mul_le_mul_of_nonneg_right h64 (by decide)
    omega
end Go.Proofs.YtmjoaiccbghijaaDoor.paramRcpts

namespace Go.Proofs.YtmjoaiccbghijaaDoor.paramRcpts
open Go.Ev hiding Comes
variable [GG]

/-- A parameter. -/
structure Par where
  name : List UInt8
  value : List UInt8
  has : Bool
  deriving DecidableEq
def parE (p : Par) : List EV := [.str p.name, .str p.value, .bool p.has]
theorem par_len {l : List Par} : ∀ r ∈ l.map parE, r.length = 3 := by
  intro r hr
  obtain ⟨p, _, rfl⟩ := List.mem_map.1 hr
  rfl
def Pars (G : Globs) (m : Mem) (v : EV) (l : List Par) : Prop := RowsAt G m 3 v (l.map parE)
theorem Pars.at {m : Mem} {v : EV} {l : List Par} (h : Pars G m v l) {i : Nat} (hi : i < l.length) : ∃ a cap, v = .slice (some a) l.length cap 3 ∧ l.length ≤ cap ∧ m.getN G (a.plus (i * 3)) 3 = some (parE l[i]) ∧ oldAd m.bl.length a = true := by
  obtain ⟨a, cap, h1, h2, h3, h4⟩ := RowsAt.at h (i := i) (by simpa using hi)
  simp only [List.length_map, List.getElem_map] at h1 h2 h3
  exact ⟨a, cap, h1, h2, h3, h4⟩
theorem Pars.slice {m : Mem} {v : EV} {l : List Par} (h : Pars G m v l) : ∃ a c e, v = .slice a l.length c e := by
  obtain ⟨a, c, e, h⟩ := RowsAt.slice h
  rw [List.length_map] at h
  exact ⟨a, c, e, h⟩
theorem Pars.grown {m M : Mem} (hg : Grown m M) {v : EV} {l : List Par} (h : Pars G m v l) : Pars G M v l := RowsAt.grown hg h
theorem par_eq (p q : Par) : eqCells [3, 3, 1] (parE p) (parE q) = some (decide (p = q)) := by
  have : decide (p = q) = ((p.name == q.name) && ((p.value == q.value) && ((p.has == q.has) && true))) := by
    rw [Bool.eq_iff_iff]
    cases p; cases q
    simp [Par.mk.injEq]
  rw [this]
  rfl

def tilde : Par := ⟨[126], [], false⟩
def LentP (m : Mem) (n0 n1 : Nat) (v : EV) (l : List Par) : Prop := LentRows G m n0 n1 3 v (l.map parE) (parE tilde)
theorem LentP.pars {m : Mem} {n0 n1 : Nat} {v : EV} {l : List Par} (h : LentP m n0 n1 v l) (hn : n1 ≤ m.bl.length) : Pars G m v l := lent_rowsAt h hn par_len
end Go.Proofs.YtmjoaiccbghijaaDoor.paramRcpts

namespace Go.Proofs.YtmjoaiccbghijaaDoor.paramRcpts
open Go.Ev hiding Comes

/-- The place of the first of some names that is a word, in any capitals. -/
def plc (w : List UInt8) (names : List (List UInt8)) : Option Nat := names.findIdx? fun n => sameU n w
/-- That place as a number; -1: there is none. -/
def plcI (w : List UInt8) (names : List (List UInt8)) : Int := match plc w names with
  | some k => (k : Int)
  | none => -1
/-- Parameters by the places of their names, one after the other. -/
def eachGo {α : Type} (names : List (List UInt8)) (stp : α → Nat → Par → Bool × α) : List Par → List Nat → α → Int × α
  | [], _, a => (0, a)
  | p :: l, seen, a => match plc p.name names with
    | none => (103, a)
    | some k => if seen.contains k = true then (102, a) else if p.has = false ∧ p.value ≠ [] then (101, a) else
      if (stp a k p).1 = true then eachGo names stp l (k :: seen) (stp a k p).2 else (101, (stp a k p).2)
def unk (names : List (List UInt8)) (l : List Par) : Bool := l.any fun p => (plc p.name names).isNone
def eachS {α : Type} (names : List (List UInt8)) (stp : α → Nat → Par → Bool × α) (l : List Par) (a : α) : Int × α :=
  if unk names l = true then (103, a) else eachGo names stp l [] a

/-! What NOTIFY says. -/
def wNEVER : List UInt8 := [78, 69, 86, 69, 82]
def wSUCCESS : List UInt8 := [83, 85, 67, 67, 69, 83, 83]
def wFAILURE : List UInt8 := [70, 65, 73, 76, 85, 82, 69]
def wDELAY : List UInt8 := [68, 69, 76, 65, 89]
def wUTF8 : List UInt8 := [117, 116, 102, 45, 56]
def wNOTIFY : List UInt8 := [78, 79, 84, 73, 70, 89]
def wORCPT : List UInt8 := [79, 82, 67, 80, 84]
def bitOf (w : List UInt8) : Nat := if upS w = wSUCCESS then 2 else if upS w = wFAILURE then 4 else if upS w = wDELAY then 8 else 0
def noteGo : List (List UInt8) → Nat → Nat
  | [], sum => sum
  | w :: ws, sum => if bitOf w = 0 ∨ sum / bitOf w % 2 = 1 then 0 else noteGo ws (sum + bitOf w)
/-- How far it is to a byte. -/
def tilB (c : UInt8) (s : List UInt8) : Nat := (s.takeWhile (· != c)).length
theorem tilB_le (c : UInt8) (s : List UInt8) : tilB c s ≤ s.length := tw_le s
/-- A text cut at the first k of a byte. -/
def splitB (c : UInt8) : Nat → List UInt8 → List (List UInt8)
  | 0, s => [s]
  | k + 1, s => s.take (tilB c s) :: splitB c k (s.drop (tilB c s + 1))
def notifyS (s : List UInt8) : Nat := if sameU s wNEVER = true then 1 else noteGo (splitB 44 (s.count 44) s) 0

/-! What ORCPT says. -/
def typedS (s : List UInt8) : Option Nat := if sp 10 s = 0 ∨ s[sp 10 s]? ≠ some 59 then none else some (sp 10 s)
def wideB (b : UInt8) : Bool := b != 92 && (isF 9 b.toNat || isF 14 b.toNat)
def wideS (s : List UInt8) : Bool := s.all wideB && (s != [] && good s.length s == s.length)

/-- What a RCPT says. -/
structure RcO where
  notify : Nat
  hasOrig : Bool
  orig : List UInt8
  deriving DecidableEq
def roE (o : RcO) : List EV := [.int .i64 o.notify, .bool o.hasOrig, .str o.orig]
def ro0 : RcO := ⟨0, false, []⟩
/-- What an original recipient says; may it be? -/
def origS (s : List UInt8) : List UInt8 × Bool := match typedS s with
  | none => ([], false)
  | some n => if sameU (s.take n) wUTF8 = true then (s, wideS (s.drop (n + 1)))
    else (s.take (n + 1) ++ (unxS (s.drop (n + 1))).1, (unxS (s.drop (n + 1))).2.1 == 0 && shownS (unxS (s.drop (n + 1))).1)
def stpR (a : RcO) (k : Nat) (p : Par) : Bool × RcO :=
  if k = 0 then (p.has && decide (0 < notifyS p.value), { a with notify := notifyS p.value })
  else if typedS p.value = none ∨ p.has = false then (false, a) else ((origS p.value).2, { a with hasOrig := true, orig := (origS p.value).1 })
def rcptS (l : List Par) : RcO × Int := if (eachS [wNOTIFY, wORCPT] stpR l ro0).1 = 0 then ((eachS [wNOTIFY, wORCPT] stpR l ro0).2, 0) else (ro0, (eachS [wNOTIFY, wORCPT] stpR l ro0).1)
end Go.Proofs.YtmjoaiccbghijaaDoor.paramRcpts

namespace Go.Proofs.YtmjoaiccbghijaaDoor.paramRcpts
open Go.Ev hiding Comes

theorem sameU_comm (a b : List UInt8) : sameU a b = sameU b a := by
  unfold sameU
  exact Bool.beq_comm
theorem sameU_iff {a b : List UInt8} : sameU a b = true ↔ upS a = upS b := by simp [sameU]
theorem plc_lt {w : List UInt8} {names : List (List UInt8)} {k : Nat} (h : plc w names = some k) : k < names.length := by
  unfold plc at h
  exact (List.findIdx?_eq_some_iff_getElem.1 h).1
theorem plc_at {w : List UInt8} {names : List (List UInt8)} {k : Nat} (h : plc w names = some k) : ∃ hk : k < names.length, upS names[k] = upS w := by
  unfold plc at h
  obtain ⟨h1, h2, _⟩ := List.findIdx?_eq_some_iff_getElem.1 h
  exact ⟨h1, sameU_iff.1 h2⟩
theorem plc_congr {a b : List UInt8} {names : List (List UInt8)} (h : upS a = upS b) : plc a names = plc b names := by
  unfold plc sameU
  rw [h]
theorem plc_eq {a b : List UInt8} {names : List (List UInt8)} {k : Nat} (h : plc a names = some k) : (plc b names = some k) ↔ sameU b a = true := by
  constructor
  · intro h2
    obtain ⟨h1, e1⟩ := plc_at h
    obtain ⟨h3, e3⟩ := plc_at h2
    exact sameU_iff.2 (e3.symm.trans e1)
  · intro h2
    rw [← h]
    exact plc_congr (sameU_iff.1 h2)
theorem plcI_some {w : List UInt8} {names : List (List UInt8)} {k : Nat} (h : plc w names = some k) : plcI w names = k := by rw [plcI, h]
theorem plcI_none {w : List UInt8} {names : List (List UInt8)} (h : plc w names = none) : plcI w names = -1 := by rw [plcI, h]
/-- The places of names that were seen, the last one first. -/
def seenOf (names : List (List UInt8)) (l : List Par) : List Nat := (l.filterMap fun p => plc p.name names).reverse
theorem seenOf_snoc {names : List (List UInt8)} {l : List Par} {p : Par} {k : Nat} (h : plc p.name names = some k) : seenOf names (l ++ [p]) = k :: seenOf names l := by
  simp [seenOf, List.filterMap_append, h]
/-- Does a name stand already? -/
theorem seen_again {names : List (List UInt8)} {l : List Par} {p : Par} {k : Nat} (hp : plc p.name names = some k) :
    (seenOf names l).contains k = l.any fun q => sameU q.name p.name := by
  rw [Bool.eq_iff_iff]
  simp only [seenOf, List.contains_iff_mem, List.mem_reverse, List.mem_filterMap, List.any_eq_true]
  constructor
  · rintro ⟨q, h1, h2⟩
    exact ⟨q, h1, (plc_eq hp).1 h2⟩
  · rintro ⟨q, h1, h2⟩
    exact ⟨q, h1, (plc_eq hp).2 h2⟩

theorem tilB_eq {c : UInt8} {s : List UInt8} : tilB c s = s.length ↔ s.count c = 0 := by
  unfold tilB
  rw [List.count_eq_zero]
  constructor
  · intro h hm
    have := tw_le (p := (· != c)) s
    obtain ⟨i, hi, e⟩ := List.getElem_of_mem hm
    have : s.takeWhile (· != c) = s := by
      have := List.takeWhile_prefix (p := (· != c)) (l := s)
      exact this.eq_of_length h
    rw [← this] at hm
    have := List.all_takeWhile (p := (· != c)) (l := s)
    have := List.all_eq_true.1 this c hm
    simp at this
  · intro h
    exact tw_end fun x hx => by
      simp only [bne_iff_ne, ne_eq]
      intro e
      exact h (e ▸ hx)
theorem tilB_at {c : UInt8} {s : List UInt8} (h : tilB c s < s.length) : s[tilB c s]? = some c := by
  have hd := List.takeWhile_append_dropWhile (p := (· != c)) (l := s)
  have hn : s.dropWhile (· != c) ≠ [] := by
    intro e
    rw [e, List.append_nil] at hd
    unfold tilB at h
    rw [hd] at h
    omega
  have hh := List.head_dropWhile_not (p := (· != c)) (l := s) (w := hn)
  unfold tilB
  conv => lhs; rw [← hd]
  rw [List.getElem?_append_right (by simp), ]
  simp only [List.takeWhile_append_dropWhile, Nat.sub_self]
  rw [← List.head?_eq_getElem?, List.head?_eq_some_head hn]
  simp at hh
  rw [hh]
theorem count_cut {c : UInt8} {s : List UInt8} (h : tilB c s < s.length) : s.count c = (s.drop (tilB c s + 1)).count c + 1 := by
  have ha := tilB_at h
  have e : s = s.take (tilB c s) ++ (c :: s.drop (tilB c s + 1)) := by
    have h2 := List.drop_eq_getElem_cons h
    rw [List.getElem?_eq_getElem h] at ha
    rw [Option.some.inj ha] at h2
    rw [← h2, List.take_append_drop]
  have h0 : (s.take (tilB c s)).count c = 0 := by
    rw [List.count_eq_zero]
    intro hm
    have hp := List.takeWhile_prefix (p := (· != c)) (l := s)
    have := List.prefix_iff_eq_take.1 hp
    have e2 : s.take (tilB c s) = s.takeWhile (· != c) := this.symm
    rw [e2] at hm
    have := List.all_eq_true.1 (List.all_takeWhile (p := (· != c)) (l := s)) c hm
    simp at this
  conv => lhs; rw [e]
  rw [List.count_append, h0, List.count_cons]
  simp
theorem splitB_len (c : UInt8) : ∀ (k : Nat) (s : List UInt8), (splitB c k s).length = k + 1
  | 0, s => rfl
  | k + 1, s => by rw [splitB, List.length_cons, splitB_len c k]
theorem find_til (s : List UInt8) (c : UInt8) : (findByte s c < 0 ∧ tilB c s = s.length) ∨ (findByte s c = (tilB c s : Nat) ∧ tilB c s < s.length) := by
  unfold findByte
  split
  · rename_i i h
    obtain ⟨h1, h2, h3⟩ := List.findIdx?_eq_some_iff_getElem.1 h
    have : tilB c s = i := tw_at (p := (· != c)) (b := s[i]) (fun x hx => by
      obtain ⟨j, hj, e⟩ := List.getElem_of_mem hx
      simp at hj
      have := h3 j (by omega)
      simp at e this
      subst e
      simpa using this) (List.getElem?_eq_getElem h1) (by simpa using h2)
    exact .inr ⟨by rw [this], by omega⟩
  · rename_i h
    refine .inl ⟨by omega, tw_end fun x hx => ?_⟩
    have := List.findIdx?_eq_none_iff.1 h x hx
    simpa using this
theorem bit_is (w : List UInt8) : bitOf w = 0 ∨ bitOf w = 2 ∨ bitOf w = 4 ∨ bitOf w = 8 := by
  unfold bitOf
  split
  · simp
  split
  · simp
  split <;> simp
theorem bits_and (n b : Nat) (hn : n < 16) (hb : b = 2 ∨ b = 4 ∨ b = 8) : (bitsE .and .i64 (n : Nat) (b : Nat) != 0) = decide (n / b % 2 = 1) := by
  obtain ⟨n, rfl⟩ : ∃ k : Fin 16, n = k.val := ⟨⟨n, hn⟩, rfl⟩
  rcases hb with rfl | rfl | rfl <;> revert n <;> decide +kernel
theorem bits_or (n b : Nat) (hn : n < 16) (hb : b = 2 ∨ b = 4 ∨ b = 8) (h : ¬ n / b % 2 = 1) : bitsE .or .i64 (n : Nat) (b : Nat) = ((n + b : Nat) : Int) ∧ n + b < 16 := by
  obtain ⟨n, rfl⟩ : ∃ k : Fin 16, n = k.val := ⟨⟨n, hn⟩, rfl⟩
  rcases hb with rfl | rfl | rfl <;> revert n <;> decide +kernel
theorem no59 : ∀ b : UInt8, isF 10 b.toNat = true → (b != 59) = true := by decide +kernel
theorem tw_mono {p q : UInt8 → Bool} (h : ∀ b, p b = true → q b = true) : ∀ s : List UInt8, (s.takeWhile p).length ≤ (s.takeWhile q).length
  | [] => by simp
  | b :: s => by
    by_cases hp : p b = true
    · rw [List.takeWhile_cons_of_pos hp, List.takeWhile_cons_of_pos (h b hp)]
      have := tw_mono h s
      simp
      omega
    · rw [List.takeWhile_cons_of_neg hp]
      simp
theorem typed_til (s : List UInt8) : typedS s = if tilB 59 s = 0 ∨ tilB 59 s = s.length ∨ sp 10 s ≠ tilB 59 s then none else some (tilB 59 s) := by
  have hm : sp 10 s ≤ tilB 59 s := tw_mono no59 s
  have hl := tilB_le 59 s
  unfold typedS
  by_cases ha : s[sp 10 s]? = some 59
  · have hlt := (List.getElem?_eq_some_iff.1 ha).1
    have e : tilB 59 s = sp 10 s := tw_at (p := (· != 59)) (fun x hx => by
      have hp := List.takeWhile_prefix (p := fun b : UInt8 => isF 10 b.toNat) (l := s)
      have e2 : s.take (sp 10 s) = s.takeWhile (fun b => isF 10 b.toNat) := (List.prefix_iff_eq_take.1 hp).symm
      rw [e2] at hx
      exact no59 x (List.all_eq_true.1 (List.all_takeWhile (p := fun b : UInt8 => isF 10 b.toNat) (l := s)) x hx)) ha (by decide)
    rw [e]
    simp only [ha, ne_eq, not_true_eq_false, or_false]
    by_cases h0 : sp 10 s = 0
    · simp [h0]
    · have : ¬ (sp 10 s = s.length) := by omega
      simp [h0, this]
  · rw [if_pos (.inr ha), if_pos]
    by_cases h : tilB 59 s = s.length
    · exact .inr (.inl h)
    · refine .inr (.inr fun e => ?_)
      rw [e] at ha
      exact ha (tilB_at (by omega))
theorem typed_lt {s : List UInt8} {n : Nat} (h : typedS s = some n) : n < s.length ∧ s[n]? = some 59 ∧ n = sp 10 s ∧ n ≠ 0 := by
  unfold typedS at h
  split at h
  · cases h
  · rename_i hn
    simp only [not_or, Decidable.not_not, ne_eq] at hn
    cases h
    exact ⟨(List.getElem?_eq_some_iff.1 hn.2).1, hn.2, rfl, hn.1⟩
theorem wideB_ref : ∀ b : UInt8, (decide (b.toNat < 128) && (!isF 9 b.toNat || b == 92)) = !wideB b := by decide +kernel
/-- The reference's rounds. -/
def rGo : List Par → List Par → RcO → RcO × Int
  | _, [], o => (o, 0)
  | pre, p :: l, o => if pre.any (fun q => sameU q.name p.name) = true then (ro0, 102) else if p.has = false then (ro0, 101) else
    if sameU p.name wNOTIFY = true then (if notifyS p.value = 0 then (ro0, 101) else rGo (pre ++ [p]) l { o with notify := notifyS p.value })
    else if (origS p.value).2 = true then rGo (pre ++ [p]) l { o with hasOrig := true, orig := (origS p.value).1 } else (ro0, 101)
theorem rGo_eq : ∀ (l pre : List Par) (o : RcO), unk [wNOTIFY, wORCPT] l = false → rGo pre l o = if (eachGo [wNOTIFY, wORCPT] stpR l (seenOf [wNOTIFY, wORCPT] pre) o).1 = 0 then ((eachGo [wNOTIFY, wORCPT] stpR l (seenOf [wNOTIFY, wORCPT] pre) o).2, 0) else (ro0, (eachGo [wNOTIFY, wORCPT] stpR l (seenOf [wNOTIFY, wORCPT] pre) o).1)
  | [], pre, o, _ => by simp [rGo, eachGo]
  | p :: l, pre, o, hu => by
    simp only [unk, List.any_cons, Bool.or_eq_false_iff] at hu
    obtain ⟨hp, hu⟩ := hu
    obtain ⟨k, hk⟩ : ∃ k, plc p.name [wNOTIFY, wORCPT] = some k := by
      cases h : plc p.name [wNOTIFY, wORCPT] with
      | none => rw [h] at hp; simp at hp
      | some k => exact ⟨k, rfl⟩
    have hs := seen_again (l := pre) hk
    have ih := fun o' => rGo_eq l (pre ++ [p]) o' hu
    simp only [seenOf_snoc hk] at ih
    rw [rGo, eachGo]
    simp only [hk, hs]
    cases hseen : (pre.any fun q => sameU q.name p.name) with
    | true => simp
    | false =>
      simp only [Bool.false_eq_true, if_false]
      have hk2 : (k = 0) ↔ sameU p.name wNOTIFY = true := by
        rw [sameU_comm]
        constructor
        · rintro rfl
          obtain ⟨_, e⟩ := plc_at hk
          exact sameU_iff.2 e
        · intro h
          unfold plc at hk
          simp only [List.findIdx?_cons, h, if_true, Option.some.injEq] at hk
          exact hk.symm
      cases hh : p.has with
      | false =>
        simp only [if_true, true_and]
        by_cases hv : p.value = []
        · have : (stpR o k p).1 = false := by
            unfold stpR
            split <;> simp [hh]
          simp [hv, this]
        · simp [hv]
      | true =>
        simp only [Bool.true_eq_false, if_false, false_and]
        by_cases h0 : k = 0
        · rw [if_pos (hk2.1 h0)]
          have e : stpR o k p = (decide (0 < notifyS p.value), { o with notify := notifyS p.value }) := by simp [stpR, h0, hh]
          rw [e]
          by_cases hn : notifyS p.value = 0
          · simp [hn]
          · have : 0 < notifyS p.value := by omega
            simp only [hn, this, decide_true, if_true, if_false]
            exact ih _
        · rw [if_neg (fun h => h0 (hk2.2 h))]
          by_cases ht : typedS p.value = none
          · have e : stpR o k p = (false, o) := by simp [stpR, h0, ht]
            have e2 : (origS p.value).2 = false := by simp [origS, ht]
            rw [e, e2]
            simp
          · have e : stpR o k p = ((origS p.value).2, { o with hasOrig := true, orig := (origS p.value).1 }) := by simp [stpR, h0, ht, hh]
            rw [e]
            cases h2 : (origS p.value).2 with
            | false => simp
            | true =>
              simp only [if_true]
              exact ih _
theorem rcpt_ref (l : List Par) : rcptS l = if unk [wNOTIFY, wORCPT] l = true then (ro0, 103) else rGo [] l ro0 := by
  unfold rcptS eachS
  cases h : unk [wNOTIFY, wORCPT] l with
  | true => simp
  | false =>
    simp only [Bool.false_eq_true, if_false]
    exact (rGo_eq l [] ro0 h).symm
end Go.Proofs.YtmjoaiccbghijaaDoor.paramRcpts

namespace Go.Proofs.YtmjoaiccbghijaaDoor.paramRcpts
open Go.Ev hiding Comes
variable [GG]

theorem get_one {m : Mem} {a : Ad} {x : EV} (h : m.getN G a 1 = some [x]) : m.get G a = some x := by
  unfold Mem.getN at h
  rw [if_neg (by omega)] at h
  obtain ⟨cs, h1, h2⟩ := Option.bind_eq_some_iff.1 h
  unfold Mem.get
  rw [h1]
  split at h2
  · rename_i hle
    have hd : a.off < cs.length := by omega
    rw [List.drop_eq_getElem_cons hd] at h2
    simp only [List.take_succ_cons, List.take_zero, Option.some.injEq, List.cons.injEq, and_true] at h2
    simp only [Option.bind_some]
    rw [List.getElem?_eq_getElem hd, h2]
  · cases h2
/-- A slice of texts. -/
def StrL (m : Mem) (v : EV) (l : List (List UInt8)) : Prop := RowsAt G m 1 v (l.map fun r => [.str r])
theorem StrL.slice {m : Mem} {v : EV} {l : List (List UInt8)} (h : StrL m v l) : ∃ a c e, v = .slice a l.length c e := by
  obtain ⟨a, c, e, h⟩ := RowsAt.slice h
  rw [List.length_map] at h
  exact ⟨a, c, e, h⟩
theorem StrL.at {m : Mem} {v : EV} {l : List (List UInt8)} (h : StrL m v l) {i : Nat} (hi : i < l.length) : ∃ a cap, v = .slice (some a) l.length cap 1 ∧ l.length ≤ cap ∧ m.get G (a.plus i) = some (.str l[i]) ∧ oldAd m.bl.length a = true := by
  obtain ⟨a, cap, h1, h2, h3, h4⟩ := RowsAt.at h (i := i) (by simpa using hi)
  simp only [List.length_map, List.getElem_map, Nat.mul_one] at h1 h2 h3
  exact ⟨a, cap, h1, h2, get_one h3, h4⟩
theorem StrL.grown {m M : Mem} (hg : Grown m M) {v : EV} {l : List (List UInt8)} (h : StrL m v l) : StrL M v l := RowsAt.grown hg h
theorem strs_flat (l : List (List UInt8)) : l.map EV.str = (l.map fun r => [EV.str r]).flatten := by
  induction l with
  | nil => rfl
  | cons x xs ih => simpa using ih
theorem StrL.lit {N M : Mem} {l : List (List UInt8)} (e : M = N.push (.cells (l.map .str) 0 true)) : StrL M (.slice (some ⟨.mem N.bl.length 0, 0⟩) l.length l.length 1) l := by
  rw [strs_flat] at e
  exact lit_rowsAt (n := l.length) e (by simp) (by simp)
/-- The place of the first of a list that is so; -1: there is none. -/
def fiI (p : List UInt8 → Bool) (l : List (List UInt8)) : Int := match l.findIdx? p with
  | some k => (k : Int)
  | none => -1
theorem fiI_at {p : List UInt8 → Bool} {l : List (List UInt8)} {i : Nat} (hi : i < l.length) (hp : p l[i] = true) (hall : ∀ x ∈ l.take i, p x = false) : fiI p l = i := by
  have : l.findIdx? p = some i := by
    rw [List.findIdx?_eq_some_iff_getElem]
    exact ⟨hi, hp, fun j hj => by
      have := hall (l[j]'(by omega)) (by rw [List.mem_take_iff_getElem]; exact ⟨j, by omega, rfl⟩)
      simp [this]⟩
  unfold fiI
  rw [this]
theorem fiI_no {p : List UInt8 → Bool} {l : List (List UInt8)} (hall : ∀ x ∈ l, p x = false) : fiI p l = -1 := by
  have : l.findIdx? p = none := by
    rw [List.findIdx?_eq_none_iff]
    exact hall
  unfold fiI
  rw [this]
theorem no_next {p : List UInt8 → Bool} {l : List (List UInt8)} {i : Nat} (hi : i < l.length) (h : ∀ x ∈ l.take i, p x = false) (hb : p l[i] = false) : ∀ x ∈ l.take (i + 1), p x = false := by
  intro x hx
  rw [List.take_succ_eq_append_getElem hi] at hx
  rcases List.mem_append.1 hx with hx | hx
  · exact h x hx
  · simp at hx
    subst hx
    exact hb
theorem plcI_fi (w : List UInt8) (names : List (List UInt8)) : plcI w names = fiI (fun n => sameU n w) names := rfl
end Go.Proofs.YtmjoaiccbghijaaDoor.paramRcpts

namespace Go.Proofs.YtmjoaiccbghijaaDoor.paramRcpts
open Go.Ev hiding Comes
variable [GG]

def smallsL : List UInt8 := [97, 98, 99, 100, 101, 102, 103, 104, 105, 106, 107, 108, 109, 110, 111, 112, 113, 114, 115, 116, 117, 118, 119, 120, 121, 122]
def capsL : List UInt8 := [65, 66, 67, 68, 69, 70, 71, 72, 73, 74, 75, 76, 77, 78, 79, 80, 81, 82, 83, 84, 85, 86, 87, 88, 89, 90]
/-- A byte as a capital, if it is one of the first j small letters. -/
def upJ (j : Nat) (b : UInt8) : UInt8 := if 97 ≤ b.toNat ∧ b.toNat < 97 + j then b - 32 else b
theorem upJ_26 (b : UInt8) : upJ 26 b = up b := by
  have h : ∀ b, upJ 26 b = up b := by decide +kernel
  exact h b
theorem smalls_at (j : Fin 26) : smallsL[j.val]? = some (UInt8.ofNat (97 + j.val)) ∧ capsL[j.val]? = some (UInt8.ofNat (65 + j.val)) ∧ ∀ b : UInt8, upJ (j.val + 1) b = if UInt8.ofNat (97 + j.val) == b then UInt8.ofNat (65 + j.val) else upJ j.val b := by
  revert j
  decide +kernel

theorem c_r01_Upper (m : Mem) (s : List UInt8) (hN : s.length ≤ 1000000000) : Go.Ev.Comes T G f_r01_Upper [.str s] m none ⟨.val (.str (upS s)), m, none⟩ := by
  refine comes2 T_r01_Upper rfl fun M hg hlen hlow => ?_
  simp only [F_r01_Upper]
  simp +contextual only [vq, vc, ve, vv, vn, vl, ↓reduceIte, Nat.reduceEqDiff, Nat.reduceAdd, Nat.reduceMul, Nat.reduceSub, Nat.reduceLeDiff, Nat.reduceLT, Nat.reduceBEq, Nat.reduceBNe, reduceCtorEq, Int.reduceBEq, Int.reduceBNe, Int.reduceLT, Int.reduceLE, Int.reduceEq, Int.reduceToNat, Int.reduceAdd, Int.reduceSub, Int.reduceNeg]
  refine loop2 (fun n st => ∃ i A N v, st = ⟨A, N, [], none⟩ ∧ m.bl.length ≤ N.low ∧ m.bl.length ≤ N.bl.length ∧ n = s.length - i ∧ i ≤ s.length ∧ A 0 = .str s ∧ A 3 = v ∧ A 4 = .int .i64 i ∧ Own m.bl.length 1 tagB N v (bytesE (upS (s.take i))) i) s.length ⟨0, _, _, _, rfl, by omega, by omega, by omega, by omega, by simp +contextual only [vq, vc, ve, vv, vn, vl, ↓reduceIte, Nat.reduceEqDiff, Nat.reduceAdd, Nat.reduceMul, Nat.reduceSub, Nat.reduceLeDiff, Nat.reduceLT, Nat.reduceBEq, Nat.reduceBNe, reduceCtorEq, Int.reduceBEq, Int.reduceBNe, Int.reduceLT, Int.reduceLE, Int.reduceEq, Int.reduceToNat, Int.reduceAdd, Int.reduceSub, Int.reduceNeg], by simp +contextual only [vq, vc, ve, vv, vn, vl, ↓reduceIte, Nat.reduceEqDiff, Nat.reduceAdd, Nat.reduceMul, Nat.reduceSub, Nat.reduceLeDiff, Nat.reduceLT, Nat.reduceBEq, Nat.reduceBNe, reduceCtorEq, Int.reduceBEq, Int.reduceBNe, Int.reduceLT, Int.reduceLE, Int.reduceEq, Int.reduceToNat, Int.reduceAdd, Int.reduceSub, Int.reduceNeg], by simp +contextual only [vq, vc, ve, vv, vn, vl, ↓reduceIte, Nat.reduceEqDiff, Nat.reduceAdd, Nat.reduceMul, Nat.reduceSub, Nat.reduceLeDiff, Nat.reduceLT, Nat.reduceBEq, Nat.reduceBNe, reduceCtorEq, Int.reduceBEq, Int.reduceBNe, Int.reduceLT, Int.reduceLE, Int.reduceEq, Int.reduceToNat, Int.reduceAdd, Int.reduceSub, Int.reduceNeg]; rfl, Own.nil⟩ fun J hJ n st hI => ?_
  obtain ⟨i, A, N, v, rfl, lN, bN, rfl, hi, A0, A3, A4, ON⟩ := hI
  simp +contextual only [vq, vc, ve, vv, vn, vl, ↓reduceIte, Nat.reduceEqDiff, Nat.reduceAdd, Nat.reduceMul, Nat.reduceSub, Nat.reduceLeDiff, Nat.reduceLT, Nat.reduceBEq, Nat.reduceBNe, reduceCtorEq, Int.reduceBEq, Int.reduceBNe, Int.reduceLT, Int.reduceLE, Int.reduceEq, Int.reduceToNat, Int.reduceAdd, Int.reduceSub, Int.reduceNeg, A0, A4]
  refine br2_dec (fun hlt => ?_) (fun hge => ?_)
  · simp +contextual only [vq, vc, ve, vv, vn, vl, ↓reduceIte, Nat.reduceEqDiff, Nat.reduceAdd, Nat.reduceMul, Nat.reduceSub, Nat.reduceLeDiff, Nat.reduceLT, Nat.reduceBEq, Nat.reduceBNe, reduceCtorEq, Int.reduceBEq, Int.reduceBNe, Int.reduceLT, Int.reduceLE, Int.reduceEq, Int.reduceToNat, Int.reduceAdd, Int.reduceSub, Int.reduceNeg, A0, A4, get_byte hlt]
    refine loop2 (fun n st => ∃ k A, st = ⟨A, N, [], none⟩ ∧ n = 26 - k ∧ k ≤ 26 ∧ A 0 = .str s ∧ A 3 = v ∧ A 4 = .int .i64 i ∧ A 5 = .int .u8 (upJ k s[i]).toNat ∧ A 6 = .int .i64 k) 26 ⟨0, _, rfl, by omega, by omega, by simp +contextual only [vq, vc, ve, vv, vn, vl, ↓reduceIte, Nat.reduceEqDiff, Nat.reduceAdd, Nat.reduceMul, Nat.reduceSub, Nat.reduceLeDiff, Nat.reduceLT, Nat.reduceBEq, Nat.reduceBNe, reduceCtorEq, Int.reduceBEq, Int.reduceBNe, Int.reduceLT, Int.reduceLE, Int.reduceEq, Int.reduceToNat, Int.reduceAdd, Int.reduceSub, Int.reduceNeg, A0], by simp +contextual only [vq, vc, ve, vv, vn, vl, ↓reduceIte, Nat.reduceEqDiff, Nat.reduceAdd, Nat.reduceMul, Nat.reduceSub, Nat.reduceLeDiff, Nat.reduceLT, Nat.reduceBEq, Nat.reduceBNe, reduceCtorEq, Int.reduceBEq, Int.reduceBNe, Int.reduceLT, Int.reduceLE, Int.reduceEq, Int.reduceToNat, Int.reduceAdd, Int.reduceSub, Int.reduceNeg, A3], by simp +contextual only [vq, vc, ve, vv, vn, vl, ↓reduceIte, Nat.reduceEqDiff, Nat.reduceAdd, Nat.reduceMul, Nat.reduceSub, Nat.reduceLeDiff, Nat.reduceLT, Nat.reduceBEq, Nat.reduceBNe, reduceCtorEq, Int.reduceBEq, Int.reduceBNe, Int.reduceLT, Int.reduceLE, Int.reduceEq, Int.reduceToNat, Int.reduceAdd, Int.reduceSub, Int.reduceNeg, A4], ?_, by simp +contextual only [vq, vc, ve, vv, vn, vl, ↓reduceIte, Nat.reduceEqDiff, Nat.reduceAdd, Nat.reduceMul, Nat.reduceSub, Nat.reduceLeDiff, Nat.reduceLT, Nat.reduceBEq, Nat.reduceBNe, reduceCtorEq, Int.reduceBEq, Int.reduceBNe, Int.reduceLT, Int.reduceLE, Int.reduceEq, Int.reduceToNat, Int.reduceAdd, Int.reduceSub, Int.reduceNeg]; rfl⟩ fun J2 hJ2 n2 st2 hI2 => ?_
    · simp +contextual only [vq, vc, ve, vv, vn, vl, ↓reduceIte, Nat.reduceEqDiff, Nat.reduceAdd, Nat.reduceMul, Nat.reduceSub, Nat.reduceLeDiff, Nat.reduceLT, Nat.reduceBEq, Nat.reduceBNe, reduceCtorEq, Int.reduceBEq, Int.reduceBNe, Int.reduceLT, Int.reduceLE, Int.reduceEq, Int.reduceToNat, Int.reduceAdd, Int.reduceSub, Int.reduceNeg, show upJ 0 s[i] = s[i] from if_neg (by omega)]
    obtain ⟨k, A, rfl, rfl, hk, A0, A3, A4, A5, A6⟩ := hI2
    have e26 : ((k : Int) < 26) = (k < 26) := propext ⟨fun h => by omega, fun h => by omega⟩
    simp +contextual only [vq, vc, ve, vv, vn, vl, ↓reduceIte, Nat.reduceEqDiff, Nat.reduceAdd, Nat.reduceMul, Nat.reduceSub, Nat.reduceLeDiff, Nat.reduceLT, Nat.reduceBEq, Nat.reduceBNe, reduceCtorEq, Int.reduceBEq, Int.reduceBNe, Int.reduceLT, Int.reduceLE, Int.reduceEq, Int.reduceToNat, Int.reduceAdd, Int.reduceSub, Int.reduceNeg, A6, e26]
    refine br2_dec (fun hk26 => ?_) (fun hk26 => ?_)
    · obtain ⟨h1, h2, h3⟩ := smalls_at ⟨k, hk26⟩
      simp only at h1 h2 h3
      unfold smallsL at h1
      unfold capsL at h2
      simp +contextual only [vq, vc, ve, vv, vn, vl, ↓reduceIte, Nat.reduceEqDiff, Nat.reduceAdd, Nat.reduceMul, Nat.reduceSub, Nat.reduceLeDiff, Nat.reduceLT, Nat.reduceBEq, Nat.reduceBNe, reduceCtorEq, Int.reduceBEq, Int.reduceBNe, Int.reduceLT, Int.reduceLE, Int.reduceEq, Int.reduceToNat, Int.reduceAdd, Int.reduceSub, Int.reduceNeg, A0, A4, A6, get_byte hlt, h1, u8_eqN]
      refine br2_mk (fun hq => ?_) (fun hq => ?_)
      · simp +contextual only [vq, vc, ve, vv, vn, vl, ↓reduceIte, Nat.reduceEqDiff, Nat.reduceAdd, Nat.reduceMul, Nat.reduceSub, Nat.reduceLeDiff, Nat.reduceLT, Nat.reduceBEq, Nat.reduceBNe, reduceCtorEq, Int.reduceBEq, Int.reduceBNe, Int.reduceLT, Int.reduceLE, Int.reduceEq, Int.reduceToNat, Int.reduceAdd, Int.reduceSub, Int.reduceNeg, A6, h2, wsucc hk26 (by omega)]
        exact again2 hJ2 (26 - (k + 1)) (by omega) ⟨k + 1, _, rfl, rfl, by omega, by simp +contextual only [vq, vc, ve, vv, vn, vl, ↓reduceIte, Nat.reduceEqDiff, Nat.reduceAdd, Nat.reduceMul, Nat.reduceSub, Nat.reduceLeDiff, Nat.reduceLT, Nat.reduceBEq, Nat.reduceBNe, reduceCtorEq, Int.reduceBEq, Int.reduceBNe, Int.reduceLT, Int.reduceLE, Int.reduceEq, Int.reduceToNat, Int.reduceAdd, Int.reduceSub, Int.reduceNeg, A0], by simp +contextual only [vq, vc, ve, vv, vn, vl, ↓reduceIte, Nat.reduceEqDiff, Nat.reduceAdd, Nat.reduceMul, Nat.reduceSub, Nat.reduceLeDiff, Nat.reduceLT, Nat.reduceBEq, Nat.reduceBNe, reduceCtorEq, Int.reduceBEq, Int.reduceBNe, Int.reduceLT, Int.reduceLE, Int.reduceEq, Int.reduceToNat, Int.reduceAdd, Int.reduceSub, Int.reduceNeg, A3], by simp +contextual only [vq, vc, ve, vv, vn, vl, ↓reduceIte, Nat.reduceEqDiff, Nat.reduceAdd, Nat.reduceMul, Nat.reduceSub, Nat.reduceLeDiff, Nat.reduceLT, Nat.reduceBEq, Nat.reduceBNe, reduceCtorEq, Int.reduceBEq, Int.reduceBNe, Int.reduceLT, Int.reduceLE, Int.reduceEq, Int.reduceToNat, Int.reduceAdd, Int.reduceSub, Int.reduceNeg, A4], by simp +contextual only [vq, vc, ve, vv, vn, vl, ↓reduceIte, Nat.reduceEqDiff, Nat.reduceAdd, Nat.reduceMul, Nat.reduceSub, Nat.reduceLeDiff, Nat.reduceLT, Nat.reduceBEq, Nat.reduceBNe, reduceCtorEq, Int.reduceBEq, Int.reduceBNe, Int.reduceLT, Int.reduceLE, Int.reduceEq, Int.reduceToNat, Int.reduceAdd, Int.reduceSub, Int.reduceNeg, h3, hq], by simp +contextual only [vq, vc, ve, vv, vn, vl, ↓reduceIte, Nat.reduceEqDiff, Nat.reduceAdd, Nat.reduceMul, Nat.reduceSub, Nat.reduceLeDiff, Nat.reduceLT, Nat.reduceBEq, Nat.reduceBNe, reduceCtorEq, Int.reduceBEq, Int.reduceBNe, Int.reduceLT, Int.reduceLE, Int.reduceEq, Int.reduceToNat, Int.reduceAdd, Int.reduceSub, Int.reduceNeg]⟩
      · simp +contextual only [vq, vc, ve, vv, vn, vl, ↓reduceIte, Nat.reduceEqDiff, Nat.reduceAdd, Nat.reduceMul, Nat.reduceSub, Nat.reduceLeDiff, Nat.reduceLT, Nat.reduceBEq, Nat.reduceBNe, reduceCtorEq, Int.reduceBEq, Int.reduceBNe, Int.reduceLT, Int.reduceLE, Int.reduceEq, Int.reduceToNat, Int.reduceAdd, Int.reduceSub, Int.reduceNeg, A6, wsucc hk26 (by omega)]
        exact again2 hJ2 (26 - (k + 1)) (by omega) ⟨k + 1, _, rfl, rfl, by omega, by simp +contextual only [vq, vc, ve, vv, vn, vl, ↓reduceIte, Nat.reduceEqDiff, Nat.reduceAdd, Nat.reduceMul, Nat.reduceSub, Nat.reduceLeDiff, Nat.reduceLT, Nat.reduceBEq, Nat.reduceBNe, reduceCtorEq, Int.reduceBEq, Int.reduceBNe, Int.reduceLT, Int.reduceLE, Int.reduceEq, Int.reduceToNat, Int.reduceAdd, Int.reduceSub, Int.reduceNeg, A0], by simp +contextual only [vq, vc, ve, vv, vn, vl, ↓reduceIte, Nat.reduceEqDiff, Nat.reduceAdd, Nat.reduceMul, Nat.reduceSub, Nat.reduceLeDiff, Nat.reduceLT, Nat.reduceBEq, Nat.reduceBNe, reduceCtorEq, Int.reduceBEq, Int.reduceBNe, Int.reduceLT, Int.reduceLE, Int.reduceEq, Int.reduceToNat, Int.reduceAdd, Int.reduceSub, Int.reduceNeg, A3], by simp +contextual only [vq, vc, ve, vv, vn, vl, ↓reduceIte, Nat.reduceEqDiff, Nat.reduceAdd, Nat.reduceMul, Nat.reduceSub, Nat.reduceLeDiff, Nat.reduceLT, Nat.reduceBEq, Nat.reduceBNe, reduceCtorEq, Int.reduceBEq, Int.reduceBNe, Int.reduceLT, Int.reduceLE, Int.reduceEq, Int.reduceToNat, Int.reduceAdd, Int.reduceSub, Int.reduceNeg, A4], by simp +contextual only [vq, vc, ve, vv, vn, vl, ↓reduceIte, Nat.reduceEqDiff, Nat.reduceAdd, Nat.reduceMul, Nat.reduceSub, Nat.reduceLeDiff, Nat.reduceLT, Nat.reduceBEq, Nat.reduceBNe, reduceCtorEq, Int.reduceBEq, Int.reduceBNe, Int.reduceLT, Int.reduceLE, Int.reduceEq, Int.reduceToNat, Int.reduceAdd, Int.reduceSub, Int.reduceNeg, h3, hq, A5], by simp +contextual only [vq, vc, ve, vv, vn, vl, ↓reduceIte, Nat.reduceEqDiff, Nat.reduceAdd, Nat.reduceMul, Nat.reduceSub, Nat.reduceLeDiff, Nat.reduceLT, Nat.reduceBEq, Nat.reduceBNe, reduceCtorEq, Int.reduceBEq, Int.reduceBNe, Int.reduceLT, Int.reduceLE, Int.reduceEq, Int.reduceToNat, Int.reduceAdd, Int.reduceSub, Int.reduceNeg]⟩
    · have hk : k = 26 := by omega
      subst hk
      simp +contextual only [vq, vc, ve, vv, vn, vl, ↓reduceIte, Nat.reduceEqDiff, Nat.reduceAdd, Nat.reduceMul, Nat.reduceSub, Nat.reduceLeDiff, Nat.reduceLT, Nat.reduceBEq, Nat.reduceBNe, reduceCtorEq, Int.reduceBEq, Int.reduceBNe, Int.reduceLT, Int.reduceLE, Int.reduceEq, Int.reduceToNat, Int.reduceAdd, Int.reduceSub, Int.reduceNeg, A3, A5, upJ_26]
      refine new_mk fun N1 e1 => ?_
      obtain ⟨R1, v2, N2, ha, ON2, st2⟩ := own_lit (G := G) (bytes := 1) (cnt := 1) ON e1 bN (.inr ⟨6, by omega, rfl⟩) (by omega) rfl (by omega) (by omega)
      have b2 := st2.2.2
      simp +contextual only [vq, vc, ve, vv, vn, vl, ↓reduceIte, Nat.reduceEqDiff, Nat.reduceAdd, Nat.reduceMul, Nat.reduceSub, Nat.reduceLeDiff, Nat.reduceLT, Nat.reduceBEq, Nat.reduceBNe, reduceCtorEq, Int.reduceBEq, Int.reduceBNe, Int.reduceLT, Int.reduceLE, Int.reduceEq, Int.reduceToNat, Int.reduceAdd, Int.reduceSub, Int.reduceNeg, A4, R1.getN (G := G), ha, wsucc hlt (by omega)]
      refine again2 hJ (s.length - (i + 1)) (by omega) ⟨i + 1, _, N2, v2, rfl, st2.2.1 lN, by omega, rfl, by omega, by simp +contextual only [vq, vc, ve, vv, vn, vl, ↓reduceIte, Nat.reduceEqDiff, Nat.reduceAdd, Nat.reduceMul, Nat.reduceSub, Nat.reduceLeDiff, Nat.reduceLT, Nat.reduceBEq, Nat.reduceBNe, reduceCtorEq, Int.reduceBEq, Int.reduceBNe, Int.reduceLT, Int.reduceLE, Int.reduceEq, Int.reduceToNat, Int.reduceAdd, Int.reduceSub, Int.reduceNeg, A0], by simp +contextual only [vq, vc, ve, vv, vn, vl, ↓reduceIte, Nat.reduceEqDiff, Nat.reduceAdd, Nat.reduceMul, Nat.reduceSub, Nat.reduceLeDiff, Nat.reduceLT, Nat.reduceBEq, Nat.reduceBNe, reduceCtorEq, Int.reduceBEq, Int.reduceBNe, Int.reduceLT, Int.reduceLE, Int.reduceEq, Int.reduceToNat, Int.reduceAdd, Int.reduceSub, Int.reduceNeg], by simp +contextual only [vq, vc, ve, vv, vn, vl, ↓reduceIte, Nat.reduceEqDiff, Nat.reduceAdd, Nat.reduceMul, Nat.reduceSub, Nat.reduceLeDiff, Nat.reduceLT, Nat.reduceBEq, Nat.reduceBNe, reduceCtorEq, Int.reduceBEq, Int.reduceBNe, Int.reduceLT, Int.reduceLE, Int.reduceEq, Int.reduceToNat, Int.reduceAdd, Int.reduceSub, Int.reduceNeg], ?_⟩
      have e3 : bytesE (upS (s.take (i + 1))) = bytesE (upS (s.take i)) ++ [.int .u8 (up s[i]).toNat] := by simp only [upS, List.take_succ_eq_append_getElem hlt, List.map_append, bytes_app]; rfl
      rw [e3]
      exact ON2
  · have he : i = s.length := by omega
    subst he
    rw [List.take_length] at ON
    simp +contextual only [vq, vc, ve, vv, vn, vl, ↓reduceIte, Nat.reduceEqDiff, Nat.reduceAdd, Nat.reduceMul, Nat.reduceSub, Nat.reduceLeDiff, Nat.reduceLT, Nat.reduceBEq, Nat.reduceBNe, reduceCtorEq, Int.reduceBEq, Int.reduceBNe, Int.reduceLT, Int.reduceLE, Int.reduceEq, Int.reduceToNat, Int.reduceAdd, Int.reduceSub, Int.reduceNeg, A3, ON.tos, lN]
end Go.Proofs.YtmjoaiccbghijaaDoor.paramRcpts

namespace Go.Proofs.YtmjoaiccbghijaaDoor.paramRcpts
open Go.Ev hiding Comes
variable [GG]

theorem c_r01_Same (m : Mem) (s t : List UInt8) (hN : s.length ≤ 1000000000) (hM : t.length ≤ 1000000000) : Go.Ev.Comes T G f_r01_Same [.str s, .str t] m none ⟨.val (.bool (sameU s t)), m, none⟩ := by
  refine comes2 T_r01_Same rfl fun M hg hlen hlow => ?_
  have hl : m.bl.length ≤ M.low := by omega
  simp only [F_r01_Same]
  simp +contextual only [vq, vc, ve, vv, vn, vl, ↓reduceIte, Nat.reduceEqDiff, Nat.reduceAdd, Nat.reduceMul, Nat.reduceSub, Nat.reduceLeDiff, Nat.reduceLT, Nat.reduceBEq, Nat.reduceBNe, reduceCtorEq, Int.reduceBEq, Int.reduceBNe, Int.reduceLT, Int.reduceLE, Int.reduceEq, Int.reduceToNat, Int.reduceAdd, Int.reduceSub, Int.reduceNeg, callR_val (c_r01_Upper _ _ hN), callR_val (c_r01_Upper _ _ hM), hl]
  rfl
end Go.Proofs.YtmjoaiccbghijaaDoor.paramRcpts

namespace Go.Proofs.YtmjoaiccbghijaaDoor.paramRcpts
open Go.Ev hiding Comes
variable [GG]

theorem c_r10_among (m : Mem) (v : EV) (w : List UInt8) (l : List (List UInt8)) (hv : StrL m v l) (hN : l.length ≤ 1000000000) (hx : ∀ x ∈ l, x.length ≤ 1000000000) (hw : w.length ≤ 1000000000) : Go.Ev.Comes T G f_r10_among [.str w, v] m none ⟨.val (.int .i64 (plcI w l)), m, none⟩ := by
  refine comes2 T_r10_among rfl fun M hg hlen hlow => ?_
  have hl : m.bl.length ≤ M.low := by omega
  have hv := hv.grown hg
  obtain ⟨a0, c0, e0, sv⟩ := hv.slice
  rw [plcI_fi]
  simp only [F_r10_among]
  simp +contextual only [vq, vc, ve, vv, vn, vl, ↓reduceIte, Nat.reduceEqDiff, Nat.reduceAdd, Nat.reduceMul, Nat.reduceSub, Nat.reduceLeDiff, Nat.reduceLT, Nat.reduceBEq, Nat.reduceBNe, reduceCtorEq, Int.reduceBEq, Int.reduceBNe, Int.reduceLT, Int.reduceLE, Int.reduceEq, Int.reduceToNat, Int.reduceAdd, Int.reduceSub, Int.reduceNeg, sv]
  refine loop2 (fun n st => ∃ i A, st = ⟨A, M, [], none⟩ ∧ n = l.length - i ∧ i ≤ l.length ∧ A 0 = .str w ∧ A 1 = v ∧ A 5 = .int .i64 (i : Nat) ∧ ∀ x ∈ l.take i, sameU x w = false) l.length ⟨0, _, rfl, by omega, by omega, by simp +contextual only [vq, vc, ve, vv, vn, vl, ↓reduceIte, Nat.reduceEqDiff, Nat.reduceAdd, Nat.reduceMul, Nat.reduceSub, Nat.reduceLeDiff, Nat.reduceLT, Nat.reduceBEq, Nat.reduceBNe, reduceCtorEq, Int.reduceBEq, Int.reduceBNe, Int.reduceLT, Int.reduceLE, Int.reduceEq, Int.reduceToNat, Int.reduceAdd, Int.reduceSub, Int.reduceNeg], by simp +contextual only [vq, vc, ve, vv, vn, vl, ↓reduceIte, Nat.reduceEqDiff, Nat.reduceAdd, Nat.reduceMul, Nat.reduceSub, Nat.reduceLeDiff, Nat.reduceLT, Nat.reduceBEq, Nat.reduceBNe, reduceCtorEq, Int.reduceBEq, Int.reduceBNe, Int.reduceLT, Int.reduceLE, Int.reduceEq, Int.reduceToNat, Int.reduceAdd, Int.reduceSub, Int.reduceNeg, sv], by simp +contextual only [vq, vc, ve, vv, vn, vl, ↓reduceIte, Nat.reduceEqDiff, Nat.reduceAdd, Nat.reduceMul, Nat.reduceSub, Nat.reduceLeDiff, Nat.reduceLT, Nat.reduceBEq, Nat.reduceBNe, reduceCtorEq, Int.reduceBEq, Int.reduceBNe, Int.reduceLT, Int.reduceLE, Int.reduceEq, Int.reduceToNat, Int.reduceAdd, Int.reduceSub, Int.reduceNeg]; rfl, by simp⟩ fun J hJ n st hI => ?_
  obtain ⟨i, A, rfl, rfl, hi, A0, A1, A5, hall⟩ := hI
  by_cases hlt : i < l.length
  · obtain ⟨a, c, e, hc, hget, ho⟩ := hv.at hlt
    have A1' := A1
    rw [e] at A1
    have hS := c_r01_Same M w l[i] (by omega) (hx _ (List.getElem_mem hlt))
    rw [sameU_comm] at hS
    simp +contextual only [vq, vc, ve, vv, vn, vl, ↓reduceIte, Nat.reduceEqDiff, Nat.reduceAdd, Nat.reduceMul, Nat.reduceSub, Nat.reduceLeDiff, Nat.reduceLT, Nat.reduceBEq, Nat.reduceBNe, reduceCtorEq, Int.reduceBEq, Int.reduceBNe, Int.reduceLT, Int.reduceLE, Int.reduceEq, Int.reduceToNat, Int.reduceAdd, Int.reduceSub, Int.reduceNeg, A0, A1, A5, hlt, hget, ho, callR_val hS]
    refine br2_mk (fun hq => ?_) (fun hq => ?_)
    · have e2 := fiI_at (p := fun n => sameU n w) hlt hq hall
      simp +contextual only [vq, vc, ve, vv, vn, vl, ↓reduceIte, Nat.reduceEqDiff, Nat.reduceAdd, Nat.reduceMul, Nat.reduceSub, Nat.reduceLeDiff, Nat.reduceLT, Nat.reduceBEq, Nat.reduceBNe, reduceCtorEq, Int.reduceBEq, Int.reduceBNe, Int.reduceLT, Int.reduceLE, Int.reduceEq, Int.reduceToNat, Int.reduceAdd, Int.reduceSub, Int.reduceNeg, A5, e2, hl]
    · simp +contextual only [vq, vc, ve, vv, vn, vl, ↓reduceIte, Nat.reduceEqDiff, Nat.reduceAdd, Nat.reduceMul, Nat.reduceSub, Nat.reduceLeDiff, Nat.reduceLT, Nat.reduceBEq, Nat.reduceBNe, reduceCtorEq, Int.reduceBEq, Int.reduceBNe, Int.reduceLT, Int.reduceLE, Int.reduceEq, Int.reduceToNat, Int.reduceAdd, Int.reduceSub, Int.reduceNeg, A5, wsucc hlt (by omega)]
      exact again2 hJ (l.length - (i + 1)) (by omega) ⟨i + 1, _, rfl, rfl, by omega, by simp +contextual only [vq, vc, ve, vv, vn, vl, ↓reduceIte, Nat.reduceEqDiff, Nat.reduceAdd, Nat.reduceMul, Nat.reduceSub, Nat.reduceLeDiff, Nat.reduceLT, Nat.reduceBEq, Nat.reduceBNe, reduceCtorEq, Int.reduceBEq, Int.reduceBNe, Int.reduceLT, Int.reduceLE, Int.reduceEq, Int.reduceToNat, Int.reduceAdd, Int.reduceSub, Int.reduceNeg, A0], by simp +contextual only [vq, vc, ve, vv, vn, vl, ↓reduceIte, Nat.reduceEqDiff, Nat.reduceAdd, Nat.reduceMul, Nat.reduceSub, Nat.reduceLeDiff, Nat.reduceLT, Nat.reduceBEq, Nat.reduceBNe, reduceCtorEq, Int.reduceBEq, Int.reduceBNe, Int.reduceLT, Int.reduceLE, Int.reduceEq, Int.reduceToNat, Int.reduceAdd, Int.reduceSub, Int.reduceNeg, A1'], by simp +contextual only [vq, vc, ve, vv, vn, vl, ↓reduceIte, Nat.reduceEqDiff, Nat.reduceAdd, Nat.reduceMul, Nat.reduceSub, Nat.reduceLeDiff, Nat.reduceLT, Nat.reduceBEq, Nat.reduceBNe, reduceCtorEq, Int.reduceBEq, Int.reduceBNe, Int.reduceLT, Int.reduceLE, Int.reduceEq, Int.reduceToNat, Int.reduceAdd, Int.reduceSub, Int.reduceNeg], no_next (p := fun n => sameU n w) hlt hall hq⟩
  · have he : i = l.length := by omega
    subst he
    rw [List.take_length] at hall
    have e2 := fiI_no (p := fun n => sameU n w) hall
    rw [sv] at A1
    simp +contextual only [vq, vc, ve, vv, vn, vl, ↓reduceIte, Nat.reduceEqDiff, Nat.reduceAdd, Nat.reduceMul, Nat.reduceSub, Nat.reduceLeDiff, Nat.reduceLT, Nat.reduceBEq, Nat.reduceBNe, reduceCtorEq, Int.reduceBEq, Int.reduceBNe, Int.reduceLT, Int.reduceLE, Int.reduceEq, Int.reduceToNat, Int.reduceAdd, Int.reduceSub, Int.reduceNeg, A1, A5, e2, hl]
/-- A parameter's cells, one by one. -/
theorem par_gets {m : Mem} {a : Ad} {o : Nat} {p : Par} (h : m.getN G (a.plus o) 3 = some (parE p)) : m.get G (a.plus o) = some (.str p.name) ∧ m.get G (a.plus (o + 1)) = some (.str p.value) ∧ m.get G (a.plus (o + 2)) = some (.bool p.has) :=
  ⟨get_part (k := 0) h (by omega) (sub_one rfl), get_part (k := 1) h (by omega) (sub_one rfl), get_part (k := 2) h (by omega) (sub_one rfl)⟩
theorem c_r10_first (m : Mem) (x v : EV) (l : List Par) (names : List (List UInt8)) (hx : Pars G m x l) (hv : StrL m v names) (hl : l.length ≤ 1000000000) (hn : ∀ p ∈ l, p.name.length ≤ 1000000000) (hN : names.length ≤ 1000) (hnl : ∀ n ∈ names, n.length ≤ 1000000) :
    Go.Ev.Comes T G f_r10_first [x, v] m none ⟨.val (.int .i64 (if unk names l = true then 103 else 0)), m, none⟩ := by
  refine comes2 T_r10_first rfl fun M hg hlen hlow => ?_
  have hl0 : m.bl.length ≤ M.low := by omega
  have hx := hx.grown hg
  have hv := hv.grown hg
  obtain ⟨ax, cx, ex, sx⟩ := hx.slice
  simp only [F_r10_first]
  simp +contextual only [vq, vc, ve, vv, vn, vl, ↓reduceIte, Nat.reduceEqDiff, Nat.reduceAdd, Nat.reduceMul, Nat.reduceSub, Nat.reduceLeDiff, Nat.reduceLT, Nat.reduceBEq, Nat.reduceBNe, reduceCtorEq, Int.reduceBEq, Int.reduceBNe, Int.reduceLT, Int.reduceLE, Int.reduceEq, Int.reduceToNat, Int.reduceAdd, Int.reduceSub, Int.reduceNeg, sx]
  refine loop2 (fun n st => ∃ i A, st = ⟨A, M, [], none⟩ ∧ n = l.length - i ∧ i ≤ l.length ∧ A 0 = x ∧ A 1 = v ∧ A 5 = .int .i64 (i : Nat) ∧ unk names (l.take i) = false) l.length ⟨0, _, rfl, by omega, by omega, by simp +contextual only [vq, vc, ve, vv, vn, vl, ↓reduceIte, Nat.reduceEqDiff, Nat.reduceAdd, Nat.reduceMul, Nat.reduceSub, Nat.reduceLeDiff, Nat.reduceLT, Nat.reduceBEq, Nat.reduceBNe, reduceCtorEq, Int.reduceBEq, Int.reduceBNe, Int.reduceLT, Int.reduceLE, Int.reduceEq, Int.reduceToNat, Int.reduceAdd, Int.reduceSub, Int.reduceNeg, sx], by simp +contextual only [vq, vc, ve, vv, vn, vl, ↓reduceIte, Nat.reduceEqDiff, Nat.reduceAdd, Nat.reduceMul, Nat.reduceSub, Nat.reduceLeDiff, Nat.reduceLT, Nat.reduceBEq, Nat.reduceBNe, reduceCtorEq, Int.reduceBEq, Int.reduceBNe, Int.reduceLT, Int.reduceLE, Int.reduceEq, Int.reduceToNat, Int.reduceAdd, Int.reduceSub, Int.reduceNeg], by simp +contextual only [vq, vc, ve, vv, vn, vl, ↓reduceIte, Nat.reduceEqDiff, Nat.reduceAdd, Nat.reduceMul, Nat.reduceSub, Nat.reduceLeDiff, Nat.reduceLT, Nat.reduceBEq, Nat.reduceBNe, reduceCtorEq, Int.reduceBEq, Int.reduceBNe, Int.reduceLT, Int.reduceLE, Int.reduceEq, Int.reduceToNat, Int.reduceAdd, Int.reduceSub, Int.reduceNeg]; rfl, rfl⟩ fun J hJ n st hI => ?_
  obtain ⟨i, A, rfl, rfl, hi, A0, A1, A5, hun⟩ := hI
  by_cases hlt : i < l.length
  · obtain ⟨a, c, e, hc, hget, ho⟩ := hx.at hlt
    have A0' := A0
    rw [e] at A0
    have hpl := c_r10_among M v l[i].name names hv (by omega) (fun x hx => by have := hnl x hx; omega) (hn _ (List.getElem_mem hlt))
    have hg0 := (par_gets hget).1
    cases hk : plc l[i].name names with
    | none =>
      rw [plcI_none hk] at hpl
      have he : unk names l = true := by
        unfold unk
        rw [List.any_eq_true]
        exact ⟨l[i], List.getElem_mem hlt, by rw [hk]; rfl⟩
      simp +contextual only [vq, vc, ve, vv, vn, vl, ↓reduceIte, Nat.reduceEqDiff, Nat.reduceAdd, Nat.reduceMul, Nat.reduceSub, Nat.reduceLeDiff, Nat.reduceLT, Nat.reduceBEq, Nat.reduceBNe, reduceCtorEq, Int.reduceBEq, Int.reduceBNe, Int.reduceLT, Int.reduceLE, Int.reduceEq, Int.reduceToNat, Int.reduceAdd, Int.reduceSub, Int.reduceNeg, A0, A1, A5, hlt, hg0, ho, callR_val hpl, he, hl0]
    | some k =>
      rw [plcI_some hk] at hpl
      have k0 : (((k : Nat) : Int) < 0) = False := eq_false (by omega)
      simp +contextual only [vq, vc, ve, vv, vn, vl, ↓reduceIte, Nat.reduceEqDiff, Nat.reduceAdd, Nat.reduceMul, Nat.reduceSub, Nat.reduceLeDiff, Nat.reduceLT, Nat.reduceBEq, Nat.reduceBNe, reduceCtorEq, Int.reduceBEq, Int.reduceBNe, Int.reduceLT, Int.reduceLE, Int.reduceEq, Int.reduceToNat, Int.reduceAdd, Int.reduceSub, Int.reduceNeg, A0, A1, A5, hlt, hg0, ho, callR_val hpl, k0, wsucc hlt (by omega)]
      refine again2 hJ (l.length - (i + 1)) (by omega) ⟨i + 1, _, rfl, rfl, by omega, by simp +contextual only [vq, vc, ve, vv, vn, vl, ↓reduceIte, Nat.reduceEqDiff, Nat.reduceAdd, Nat.reduceMul, Nat.reduceSub, Nat.reduceLeDiff, Nat.reduceLT, Nat.reduceBEq, Nat.reduceBNe, reduceCtorEq, Int.reduceBEq, Int.reduceBNe, Int.reduceLT, Int.reduceLE, Int.reduceEq, Int.reduceToNat, Int.reduceAdd, Int.reduceSub, Int.reduceNeg, A0'], by simp +contextual only [vq, vc, ve, vv, vn, vl, ↓reduceIte, Nat.reduceEqDiff, Nat.reduceAdd, Nat.reduceMul, Nat.reduceSub, Nat.reduceLeDiff, Nat.reduceLT, Nat.reduceBEq, Nat.reduceBNe, reduceCtorEq, Int.reduceBEq, Int.reduceBNe, Int.reduceLT, Int.reduceLE, Int.reduceEq, Int.reduceToNat, Int.reduceAdd, Int.reduceSub, Int.reduceNeg, A1], by simp +contextual only [vq, vc, ve, vv, vn, vl, ↓reduceIte, Nat.reduceEqDiff, Nat.reduceAdd, Nat.reduceMul, Nat.reduceSub, Nat.reduceLeDiff, Nat.reduceLT, Nat.reduceBEq, Nat.reduceBNe, reduceCtorEq, Int.reduceBEq, Int.reduceBNe, Int.reduceLT, Int.reduceLE, Int.reduceEq, Int.reduceToNat, Int.reduceAdd, Int.reduceSub, Int.reduceNeg], ?_⟩
      unfold unk at hun ⊢
      rw [List.take_succ_eq_append_getElem hlt, List.any_append, hun]
      simp [hk]
  · have he : i = l.length := by omega
    subst he
    rw [List.take_length] at hun
    rw [sx] at A0
    simp +contextual only [vq, vc, ve, vv, vn, vl, ↓reduceIte, Nat.reduceEqDiff, Nat.reduceAdd, Nat.reduceMul, Nat.reduceSub, Nat.reduceLeDiff, Nat.reduceLT, Nat.reduceBEq, Nat.reduceBNe, reduceCtorEq, Int.reduceBEq, Int.reduceBNe, Int.reduceLT, Int.reduceLE, Int.reduceEq, Int.reduceToNat, Int.reduceAdd, Int.reduceSub, Int.reduceNeg, A0, A5, hlt, hun, hl0]
end Go.Proofs.YtmjoaiccbghijaaDoor.paramRcpts

namespace Go.Proofs.YtmjoaiccbghijaaDoor.paramRcpts
open Go.Ev hiding Comes
variable [GG]

theorem c_r01_Has (m : Mem) (s : List UInt8) (b : UInt8) (hN : s.length ≤ 4611686018427387904) :
    Go.Ev.Comes T G f_r01_Has [.str s, .int .u8 b.toNat] m none ⟨.val (.bool (s.contains b)), m, none⟩ := by
  refine comes2 T_r01_Has rfl fun M hg hlen hlow => ?_
  have hl : m.bl.length ≤ M.low := by omega
  simp only [F_r01_Has]
  simp +contextual only [vq, vc, ve, vv, vn, vl, ↓reduceIte, Nat.reduceEqDiff, Nat.reduceAdd, Nat.reduceMul, Nat.reduceSub, Nat.reduceLeDiff, Nat.reduceLT, Nat.reduceBEq, Nat.reduceBNe, reduceCtorEq, Int.reduceBEq, Int.reduceBNe, Int.reduceLT, Int.reduceLE, Int.reduceEq, Int.reduceToNat, Int.reduceAdd, Int.reduceSub, Int.reduceNeg]
  refine loop2 (fun n st => ∃ i A, st = ⟨A, M, [], none⟩ ∧ n = s.length - i ∧ i ≤ s.length ∧ A 0 = .str s ∧ A 1 = .int .u8 b.toNat ∧ A 5 = .int .i64 i ∧ s.contains b = (s.drop i).contains b) s.length ⟨0, _, rfl, by omega, by omega, by simp +contextual only [vq, vc, ve, vv, vn, vl, ↓reduceIte, Nat.reduceEqDiff, Nat.reduceAdd, Nat.reduceMul, Nat.reduceSub, Nat.reduceLeDiff, Nat.reduceLT, Nat.reduceBEq, Nat.reduceBNe, reduceCtorEq, Int.reduceBEq, Int.reduceBNe, Int.reduceLT, Int.reduceLE, Int.reduceEq, Int.reduceToNat, Int.reduceAdd, Int.reduceSub, Int.reduceNeg], by simp +contextual only [vq, vc, ve, vv, vn, vl, ↓reduceIte, Nat.reduceEqDiff, Nat.reduceAdd, Nat.reduceMul, Nat.reduceSub, Nat.reduceLeDiff, Nat.reduceLT, Nat.reduceBEq, Nat.reduceBNe, reduceCtorEq, Int.reduceBEq, Int.reduceBNe, Int.reduceLT, Int.reduceLE, Int.reduceEq, Int.reduceToNat, Int.reduceAdd, Int.reduceSub, Int.reduceNeg], by simp +contextual only [vq, vc, ve, vv, vn, vl, ↓reduceIte, Nat.reduceEqDiff, Nat.reduceAdd, Nat.reduceMul, Nat.reduceSub, Nat.reduceLeDiff, Nat.reduceLT, Nat.reduceBEq, Nat.reduceBNe, reduceCtorEq, Int.reduceBEq, Int.reduceBNe, Int.reduceLT, Int.reduceLE, Int.reduceEq, Int.reduceToNat, Int.reduceAdd, Int.reduceSub, Int.reduceNeg]; rfl, rfl⟩ fun J hJ n st hI => ?_
  obtain ⟨i, A, rfl, rfl, hi, A0, A1, A5, hc⟩ := hI
  simp +contextual only [vq, vc, ve, vv, vn, vl, ↓reduceIte, Nat.reduceEqDiff, Nat.reduceAdd, Nat.reduceMul, Nat.reduceSub, Nat.reduceLeDiff, Nat.reduceLT, Nat.reduceBEq, Nat.reduceBNe, reduceCtorEq, Int.reduceBEq, Int.reduceBNe, Int.reduceLT, Int.reduceLE, Int.reduceEq, Int.reduceToNat, Int.reduceAdd, Int.reduceSub, Int.reduceNeg, A0, A5]
  refine br2_dec (fun hlt => ?_) (fun hge => ?_)
  · have hd : s.drop i = s[i] :: s.drop (i + 1) := List.drop_eq_getElem_cons hlt
    simp +contextual only [vq, vc, ve, vv, vn, vl, ↓reduceIte, Nat.reduceEqDiff, Nat.reduceAdd, Nat.reduceMul, Nat.reduceSub, Nat.reduceLeDiff, Nat.reduceLT, Nat.reduceBEq, Nat.reduceBNe, reduceCtorEq, Int.reduceBEq, Int.reduceBNe, Int.reduceLT, Int.reduceLE, Int.reduceEq, Int.reduceToNat, Int.reduceAdd, Int.reduceSub, Int.reduceNeg, A0, A1, A5, get_byte hlt, u8_eqN]
    refine br2_mk (fun hp => ?_) (fun hp => ?_)
    · have hp : s[i] = b := by simpa using hp
      have e : s.contains b = true := by rw [hc, hd, hp]; simp
      simp +contextual only [vq, vc, ve, vv, vn, vl, ↓reduceIte, Nat.reduceEqDiff, Nat.reduceAdd, Nat.reduceMul, Nat.reduceSub, Nat.reduceLeDiff, Nat.reduceLT, Nat.reduceBEq, Nat.reduceBNe, reduceCtorEq, Int.reduceBEq, Int.reduceBNe, Int.reduceLT, Int.reduceLE, Int.reduceEq, Int.reduceToNat, Int.reduceAdd, Int.reduceSub, Int.reduceNeg, hl, e]
    · have e : s.contains b = (s.drop (i + 1)).contains b := by
        rw [hc, hd, List.contains_cons]
        have : (b == s[i]) = false := by rw [← hp]; exact Bool.beq_comm
        rw [this, Bool.false_or]
      simp +contextual only [vq, vc, ve, vv, vn, vl, ↓reduceIte, Nat.reduceEqDiff, Nat.reduceAdd, Nat.reduceMul, Nat.reduceSub, Nat.reduceLeDiff, Nat.reduceLT, Nat.reduceBEq, Nat.reduceBNe, reduceCtorEq, Int.reduceBEq, Int.reduceBNe, Int.reduceLT, Int.reduceLE, Int.reduceEq, Int.reduceToNat, Int.reduceAdd, Int.reduceSub, Int.reduceNeg, A5, wsucc hlt hN]
      exact again2 hJ (s.length - (i + 1)) (by omega) ⟨i + 1, _, rfl, rfl, by omega, by simp +contextual only [vq, vc, ve, vv, vn, vl, ↓reduceIte, Nat.reduceEqDiff, Nat.reduceAdd, Nat.reduceMul, Nat.reduceSub, Nat.reduceLeDiff, Nat.reduceLT, Nat.reduceBEq, Nat.reduceBNe, reduceCtorEq, Int.reduceBEq, Int.reduceBNe, Int.reduceLT, Int.reduceLE, Int.reduceEq, Int.reduceToNat, Int.reduceAdd, Int.reduceSub, Int.reduceNeg, A0], by simp +contextual only [vq, vc, ve, vv, vn, vl, ↓reduceIte, Nat.reduceEqDiff, Nat.reduceAdd, Nat.reduceMul, Nat.reduceSub, Nat.reduceLeDiff, Nat.reduceLT, Nat.reduceBEq, Nat.reduceBNe, reduceCtorEq, Int.reduceBEq, Int.reduceBNe, Int.reduceLT, Int.reduceLE, Int.reduceEq, Int.reduceToNat, Int.reduceAdd, Int.reduceSub, Int.reduceNeg, A1], by simp +contextual only [vq, vc, ve, vv, vn, vl, ↓reduceIte, Nat.reduceEqDiff, Nat.reduceAdd, Nat.reduceMul, Nat.reduceSub, Nat.reduceLeDiff, Nat.reduceLT, Nat.reduceBEq, Nat.reduceBNe, reduceCtorEq, Int.reduceBEq, Int.reduceBNe, Int.reduceLT, Int.reduceLE, Int.reduceEq, Int.reduceToNat, Int.reduceAdd, Int.reduceSub, Int.reduceNeg], e⟩
  · have e : s.contains b = false := by rw [hc, List.drop_eq_nil_of_le (by omega)]; rfl
    simp +contextual only [vq, vc, ve, vv, vn, vl, ↓reduceIte, Nat.reduceEqDiff, Nat.reduceAdd, Nat.reduceMul, Nat.reduceSub, Nat.reduceLeDiff, Nat.reduceLT, Nat.reduceBEq, Nat.reduceBNe, reduceCtorEq, Int.reduceBEq, Int.reduceBNe, Int.reduceLT, Int.reduceLE, Int.reduceEq, Int.reduceToNat, Int.reduceAdd, Int.reduceSub, Int.reduceNeg, hl, e]
end Go.Proofs.YtmjoaiccbghijaaDoor.paramRcpts

set_option maxRecDepth 10000
namespace Go.Proofs.YtmjoaiccbghijaaDoor.paramRcpts
open Go.Ev hiding Comes
variable [GG]

/-- A visible byte that is none of some. -/
def seen (b : UInt8) (s : List UInt8) : Bool := decide (33 ≤ (b.toNat : Int)) && decide ((b.toNat : Int) ≤ 126) && !s.contains b
theorem c_r01_shown (m : Mem) (b : UInt8) (s : List UInt8) (hN : s.length ≤ 4611686018427387904) :
    Go.Ev.Comes T G f_r01_shown [.int .u8 b.toNat, .str s] m none ⟨.val (.bool (seen b s)), m, none⟩ := by
  refine comes2 T_r01_shown rfl fun M hg hlen hlow => ?_
  have hl : m.bl.length ≤ M.low := by omega
  simp only [F_r01_shown]
  simp +contextual only [vq, vc, ve, vv, vn, vl, ↓reduceIte, Nat.reduceEqDiff, Nat.reduceAdd, Nat.reduceMul, Nat.reduceSub, Nat.reduceLeDiff, Nat.reduceLT, Nat.reduceBEq, Nat.reduceBNe, reduceCtorEq, Int.reduceBEq, Int.reduceBNe, Int.reduceLT, Int.reduceLE, Int.reduceEq, Int.reduceToNat, Int.reduceAdd, Int.reduceSub, Int.reduceNeg, callR_val (c_r01_Has _ _ _ hN), hl]
  rfl
theorem r01_Is_1 (m : Mem) (b : UInt8) : Go.Ev.Comes T G f_r01_Is [.int .i64 1, .int .u8 b.toNat] m none ⟨.val (.bool (isF 1 b.toNat)), m, none⟩ := by
  refine comes2 T_r01_Is rfl fun M hg hlen hlow => ?_
  have hl : m.bl.length ≤ M.low := by omega
  clear hg
  have hh := fun m s b h => callR_val (c_r01_Has m s b h)
  have hs := fun m b s h => callR_val (c_r01_shown m b s h)
  simp only [F_r01_Is]
  simp +contextual only [vq, vc, ve, vv, vn, vl, ↓reduceIte, Nat.reduceEqDiff, Nat.reduceAdd, Nat.reduceMul, Nat.reduceSub, Nat.reduceLeDiff, Nat.reduceLT, Nat.reduceBEq, Nat.reduceBNe, reduceCtorEq, Int.reduceBEq, Int.reduceBNe, Int.reduceLT, Int.reduceLE, Int.reduceEq, Int.reduceToNat, Int.reduceAdd, Int.reduceSub, Int.reduceNeg, hh, hl]
  clear hh hs
  revert b
  decide +kernel
theorem r01_Is_2 (m : Mem) (b : UInt8) : Go.Ev.Comes T G f_r01_Is [.int .i64 2, .int .u8 b.toNat] m none ⟨.val (.bool (isF 2 b.toNat)), m, none⟩ := by
  refine comes2 T_r01_Is rfl fun M hg hlen hlow => ?_
  have hl : m.bl.length ≤ M.low := by omega
  clear hg
  have hh := fun m s b h => callR_val (c_r01_Has m s b h)
  have hs := fun m b s h => callR_val (c_r01_shown m b s h)
  simp only [F_r01_Is]
  simp +contextual only [vq, vc, ve, vv, vn, vl, ↓reduceIte, Nat.reduceEqDiff, Nat.reduceAdd, Nat.reduceMul, Nat.reduceSub, Nat.reduceLeDiff, Nat.reduceLT, Nat.reduceBEq, Nat.reduceBNe, reduceCtorEq, Int.reduceBEq, Int.reduceBNe, Int.reduceLT, Int.reduceLE, Int.reduceEq, Int.reduceToNat, Int.reduceAdd, Int.reduceSub, Int.reduceNeg, hh, hs, hl]
  clear hh hs
  revert b
  decide +kernel
theorem r01_Is_4 (m : Mem) (b : UInt8) : Go.Ev.Comes T G f_r01_Is [.int .i64 4, .int .u8 b.toNat] m none ⟨.val (.bool (isF 4 b.toNat)), m, none⟩ := by
  refine comes2 T_r01_Is rfl fun M hg hlen hlow => ?_
  have hl : m.bl.length ≤ M.low := by omega
  clear hg
  have hh := fun m s b h => callR_val (c_r01_Has m s b h)
  have hs := fun m b s h => callR_val (c_r01_shown m b s h)
  simp only [F_r01_Is]
  simp +contextual only [vq, vc, ve, vv, vn, vl, ↓reduceIte, Nat.reduceEqDiff, Nat.reduceAdd, Nat.reduceMul, Nat.reduceSub, Nat.reduceLeDiff, Nat.reduceLT, Nat.reduceBEq, Nat.reduceBNe, reduceCtorEq, Int.reduceBEq, Int.reduceBNe, Int.reduceLT, Int.reduceLE, Int.reduceEq, Int.reduceToNat, Int.reduceAdd, Int.reduceSub, Int.reduceNeg, hh, hs, hl]
  clear hh hs
  revert b
  decide +kernel
theorem r01_Is_7 (m : Mem) (b : UInt8) : Go.Ev.Comes T G f_r01_Is [.int .i64 7, .int .u8 b.toNat] m none ⟨.val (.bool (isF 7 b.toNat)), m, none⟩ := by
  refine comes2 T_r01_Is rfl fun M hg hlen hlow => ?_
  have hl : m.bl.length ≤ M.low := by omega
  clear hg
  have hh := fun m s b h => callR_val (c_r01_Has m s b h)
  have hs := fun m b s h => callR_val (c_r01_shown m b s h)
  simp only [F_r01_Is]
  simp +contextual only [vq, vc, ve, vv, vn, vl, ↓reduceIte, Nat.reduceEqDiff, Nat.reduceAdd, Nat.reduceMul, Nat.reduceSub, Nat.reduceLeDiff, Nat.reduceLT, Nat.reduceBEq, Nat.reduceBNe, reduceCtorEq, Int.reduceBEq, Int.reduceBNe, Int.reduceLT, Int.reduceLE, Int.reduceEq, Int.reduceToNat, Int.reduceAdd, Int.reduceSub, Int.reduceNeg, hh, hs, hl]
  clear hh hs
  revert b
  decide +kernel
theorem r01_Is_8 (m : Mem) (b : UInt8) : Go.Ev.Comes T G f_r01_Is [.int .i64 8, .int .u8 b.toNat] m none ⟨.val (.bool (isF 8 b.toNat)), m, none⟩ := by
  refine comes2 T_r01_Is rfl fun M hg hlen hlow => ?_
  have hl : m.bl.length ≤ M.low := by omega
  clear hg
  have hh := fun m s b h => callR_val (c_r01_Has m s b h)
  have hs := fun m b s h => callR_val (c_r01_shown m b s h)
  simp only [F_r01_Is]
  simp +contextual only [vq, vc, ve, vv, vn, vl, ↓reduceIte, Nat.reduceEqDiff, Nat.reduceAdd, Nat.reduceMul, Nat.reduceSub, Nat.reduceLeDiff, Nat.reduceLT, Nat.reduceBEq, Nat.reduceBNe, reduceCtorEq, Int.reduceBEq, Int.reduceBNe, Int.reduceLT, Int.reduceLE, Int.reduceEq, Int.reduceToNat, Int.reduceAdd, Int.reduceSub, Int.reduceNeg, hh, hs, hl]
  clear hh hs
  revert b
  decide +kernel
theorem r01_Is_9 (m : Mem) (b : UInt8) : Go.Ev.Comes T G f_r01_Is [.int .i64 9, .int .u8 b.toNat] m none ⟨.val (.bool (isF 9 b.toNat)), m, none⟩ := by
  refine comes2 T_r01_Is rfl fun M hg hlen hlow => ?_
  have hl : m.bl.length ≤ M.low := by omega
  clear hg
  have hh := fun m s b h => callR_val (c_r01_Has m s b h)
  have hs := fun m b s h => callR_val (c_r01_shown m b s h)
  simp only [F_r01_Is]
  simp +contextual only [vq, vc, ve, vv, vn, vl, ↓reduceIte, Nat.reduceEqDiff, Nat.reduceAdd, Nat.reduceMul, Nat.reduceSub, Nat.reduceLeDiff, Nat.reduceLT, Nat.reduceBEq, Nat.reduceBNe, reduceCtorEq, Int.reduceBEq, Int.reduceBNe, Int.reduceLT, Int.reduceLE, Int.reduceEq, Int.reduceToNat, Int.reduceAdd, Int.reduceSub, Int.reduceNeg, hh, hs, hl]
  clear hh hs
  revert b
  decide +kernel
theorem r01_Is_11 (m : Mem) (b : UInt8) : Go.Ev.Comes T G f_r01_Is [.int .i64 11, .int .u8 b.toNat] m none ⟨.val (.bool (isF 11 b.toNat)), m, none⟩ := by
  refine comes2 T_r01_Is rfl fun M hg hlen hlow => ?_
  have hl : m.bl.length ≤ M.low := by omega
  clear hg
  have hh := fun m s b h => callR_val (c_r01_Has m s b h)
  have hs := fun m b s h => callR_val (c_r01_shown m b s h)
  simp only [F_r01_Is]
  simp +contextual only [vq, vc, ve, vv, vn, vl, ↓reduceIte, Nat.reduceEqDiff, Nat.reduceAdd, Nat.reduceMul, Nat.reduceSub, Nat.reduceLeDiff, Nat.reduceLT, Nat.reduceBEq, Nat.reduceBNe, reduceCtorEq, Int.reduceBEq, Int.reduceBNe, Int.reduceLT, Int.reduceLE, Int.reduceEq, Int.reduceToNat, Int.reduceAdd, Int.reduceSub, Int.reduceNeg, hh, hs, hl]
  clear hh hs
  revert b
  decide +kernel
theorem r01_Is_12 (m : Mem) (b : UInt8) : Go.Ev.Comes T G f_r01_Is [.int .i64 12, .int .u8 b.toNat] m none ⟨.val (.bool (isF 12 b.toNat)), m, none⟩ := by
  refine comes2 T_r01_Is rfl fun M hg hlen hlow => ?_
  have hl : m.bl.length ≤ M.low := by omega
  clear hg
  have hh := fun m s b h => callR_val (c_r01_Has m s b h)
  have hs := fun m b s h => callR_val (c_r01_shown m b s h)
  simp only [F_r01_Is]
  simp +contextual only [vq, vc, ve, vv, vn, vl, ↓reduceIte, Nat.reduceEqDiff, Nat.reduceAdd, Nat.reduceMul, Nat.reduceSub, Nat.reduceLeDiff, Nat.reduceLT, Nat.reduceBEq, Nat.reduceBNe, reduceCtorEq, Int.reduceBEq, Int.reduceBNe, Int.reduceLT, Int.reduceLE, Int.reduceEq, Int.reduceToNat, Int.reduceAdd, Int.reduceSub, Int.reduceNeg, hh, hs, hl]
  clear hh hs
  revert b
  decide +kernel
theorem r01_Is_13 (m : Mem) (b : UInt8) : Go.Ev.Comes T G f_r01_Is [.int .i64 13, .int .u8 b.toNat] m none ⟨.val (.bool (isF 13 b.toNat)), m, none⟩ := by
  refine comes2 T_r01_Is rfl fun M hg hlen hlow => ?_
  have hl : m.bl.length ≤ M.low := by omega
  clear hg
  have hh := fun m s b h => callR_val (c_r01_Has m s b h)
  have hs := fun m b s h => callR_val (c_r01_shown m b s h)
  simp only [F_r01_Is]
  simp +contextual only [vq, vc, ve, vv, vn, vl, ↓reduceIte, Nat.reduceEqDiff, Nat.reduceAdd, Nat.reduceMul, Nat.reduceSub, Nat.reduceLeDiff, Nat.reduceLT, Nat.reduceBEq, Nat.reduceBNe, reduceCtorEq, Int.reduceBEq, Int.reduceBNe, Int.reduceLT, Int.reduceLE, Int.reduceEq, Int.reduceToNat, Int.reduceAdd, Int.reduceSub, Int.reduceNeg, hh, hs, hl]
  clear hh hs
  revert b
  decide +kernel
theorem r01_Is_14 (m : Mem) (b : UInt8) : Go.Ev.Comes T G f_r01_Is [.int .i64 14, .int .u8 b.toNat] m none ⟨.val (.bool (isF 14 b.toNat)), m, none⟩ := by
  refine comes2 T_r01_Is rfl fun M hg hlen hlow => ?_
  have hl : m.bl.length ≤ M.low := by omega
  clear hg
  have hh := fun m s b h => callR_val (c_r01_Has m s b h)
  have hs := fun m b s h => callR_val (c_r01_shown m b s h)
  simp only [F_r01_Is]
  simp +contextual only [vq, vc, ve, vv, vn, vl, ↓reduceIte, Nat.reduceEqDiff, Nat.reduceAdd, Nat.reduceMul, Nat.reduceSub, Nat.reduceLeDiff, Nat.reduceLT, Nat.reduceBEq, Nat.reduceBNe, reduceCtorEq, Int.reduceBEq, Int.reduceBNe, Int.reduceLT, Int.reduceLE, Int.reduceEq, Int.reduceToNat, Int.reduceAdd, Int.reduceSub, Int.reduceNeg, hh, hs, hl]
  clear hh hs
  revert b
  decide +kernel
theorem r01_Is_6 (m : Mem) (b : UInt8) : Go.Ev.Comes T G f_r01_Is [.int .i64 6, .int .u8 b.toNat] m none ⟨.val (.bool (isF 6 b.toNat)), m, none⟩ := by
  refine comes2 T_r01_Is rfl fun M hg hlen hlow => ?_
  have hl : m.bl.length ≤ M.low := by omega
  clear hg
  have hh := fun m s b h => callR_val (c_r01_Has m s b h)
  have hs := fun m b s h => callR_val (c_r01_shown m b s h)
  simp only [F_r01_Is]
  simp +contextual only [vq, vc, ve, vv, vn, vl, ↓reduceIte, Nat.reduceEqDiff, Nat.reduceAdd, Nat.reduceMul, Nat.reduceSub, Nat.reduceLeDiff, Nat.reduceLT, Nat.reduceBEq, Nat.reduceBNe, reduceCtorEq, Int.reduceBEq, Int.reduceBNe, Int.reduceLT, Int.reduceLE, Int.reduceEq, Int.reduceToNat, Int.reduceAdd, Int.reduceSub, Int.reduceNeg, hh, hs, hl]
  clear hh hs
  revert b
  decide +kernel
theorem r01_Is_3 (m : Mem) (b : UInt8) : Go.Ev.Comes T G f_r01_Is [.int .i64 3, .int .u8 b.toNat] m none ⟨.val (.bool (isF 3 b.toNat)), m, none⟩ := by
  refine comes2 T_r01_Is rfl fun M hg hlen hlow => ?_
  have hl : m.bl.length ≤ M.low := by omega
  clear hg
  have hh := fun m s b h => callR_val (c_r01_Has m s b h)
  have hs := fun m b s h => callR_val (c_r01_shown m b s h)
  simp only [F_r01_Is]
  simp +contextual only [vq, vc, ve, vv, vn, vl, ↓reduceIte, Nat.reduceEqDiff, Nat.reduceAdd, Nat.reduceMul, Nat.reduceSub, Nat.reduceLeDiff, Nat.reduceLT, Nat.reduceBEq, Nat.reduceBNe, reduceCtorEq, Int.reduceBEq, Int.reduceBNe, Int.reduceLT, Int.reduceLE, Int.reduceEq, Int.reduceToNat, Int.reduceAdd, Int.reduceSub, Int.reduceNeg, callR_val (r01_Is_1 _ _), callR_val (r01_Is_2 _ _), hl]
  clear hh hs
  revert b
  decide +kernel
theorem r01_Is_5 (m : Mem) (b : UInt8) : Go.Ev.Comes T G f_r01_Is [.int .i64 5, .int .u8 b.toNat] m none ⟨.val (.bool (isF 5 b.toNat)), m, none⟩ := by
  refine comes2 T_r01_Is rfl fun M hg hlen hlow => ?_
  have hl : m.bl.length ≤ M.low := by omega
  clear hg
  have hh := fun m s b h => callR_val (c_r01_Has m s b h)
  have hs := fun m b s h => callR_val (c_r01_shown m b s h)
  simp only [F_r01_Is]
  simp +contextual only [vq, vc, ve, vv, vn, vl, ↓reduceIte, Nat.reduceEqDiff, Nat.reduceAdd, Nat.reduceMul, Nat.reduceSub, Nat.reduceLeDiff, Nat.reduceLT, Nat.reduceBEq, Nat.reduceBNe, reduceCtorEq, Int.reduceBEq, Int.reduceBNe, Int.reduceLT, Int.reduceLE, Int.reduceEq, Int.reduceToNat, Int.reduceAdd, Int.reduceSub, Int.reduceNeg, callR_val (r01_Is_3 _ _), hh, hl]
  clear hh hs
  revert b
  decide +kernel
theorem r01_Is_10 (m : Mem) (b : UInt8) : Go.Ev.Comes T G f_r01_Is [.int .i64 10, .int .u8 b.toNat] m none ⟨.val (.bool (isF 10 b.toNat)), m, none⟩ := by
  refine comes2 T_r01_Is rfl fun M hg hlen hlow => ?_
  have hl : m.bl.length ≤ M.low := by omega
  clear hg
  have hh := fun m s b h => callR_val (c_r01_Has m s b h)
  have hs := fun m b s h => callR_val (c_r01_shown m b s h)
  simp only [F_r01_Is]
  simp +contextual only [vq, vc, ve, vv, vn, vl, ↓reduceIte, Nat.reduceEqDiff, Nat.reduceAdd, Nat.reduceMul, Nat.reduceSub, Nat.reduceLeDiff, Nat.reduceLT, Nat.reduceBEq, Nat.reduceBNe, reduceCtorEq, Int.reduceBEq, Int.reduceBNe, Int.reduceLT, Int.reduceLE, Int.reduceEq, Int.reduceToNat, Int.reduceAdd, Int.reduceSub, Int.reduceNeg, callR_val (r01_Is_3 _ _), hl]
  clear hh hs
  revert b
  decide +kernel
theorem c_r01_Is (m : Mem) (c : Int) (b : UInt8) (h : 1 ≤ c ∧ c ≤ 14) : Go.Ev.Comes T G f_r01_Is [.int .i64 c, .int .u8 b.toNat] m none ⟨.val (.bool (isF c b.toNat)), m, none⟩ := by
  obtain ⟨n, rfl⟩ : ∃ n : Fin 15, c = (n.val : Int) := ⟨⟨c.toNat, by omega⟩, by simp; omega⟩
  match n, h with
  | 0, h => simp at h
  | 1, _ => exact r01_Is_1 m b
  | 2, _ => exact r01_Is_2 m b
  | 3, _ => exact r01_Is_3 m b
  | 4, _ => exact r01_Is_4 m b
  | 5, _ => exact r01_Is_5 m b
  | 6, _ => exact r01_Is_6 m b
  | 7, _ => exact r01_Is_7 m b
  | 8, _ => exact r01_Is_8 m b
  | 9, _ => exact r01_Is_9 m b
  | 10, _ => exact r01_Is_10 m b
  | 11, _ => exact r01_Is_11 m b
  | 12, _ => exact r01_Is_12 m b
  | 13, _ => exact r01_Is_13 m b
  | 14, _ => exact r01_Is_14 m b
end Go.Proofs.YtmjoaiccbghijaaDoor.paramRcpts

namespace Go.Proofs.YtmjoaiccbghijaaDoor.paramRcpts
open Go.Ev hiding Comes
variable [GG]

theorem c_r01_Bad (m : Mem) (c : Int) (s : List UInt8) (hc : 1 ≤ c ∧ c ≤ 14) (hN : s.length ≤ 4611686018427387904) :
    Go.Ev.Comes T G f_r01_Bad [.int .i64 c, .str s] m none ⟨.val (.int .i64 (sp c s : Nat)), m, none⟩ := by
  refine comes2 T_r01_Bad rfl fun M hg hlen hlow => ?_
  have hl : m.bl.length ≤ M.low := by omega
  simp only [F_r01_Bad]
  simp +contextual only [vq, vc, ve, vv, vn, vl, ↓reduceIte, Nat.reduceEqDiff, Nat.reduceAdd, Nat.reduceMul, Nat.reduceSub, Nat.reduceLeDiff, Nat.reduceLT, Nat.reduceBEq, Nat.reduceBNe, reduceCtorEq, Int.reduceBEq, Int.reduceBNe, Int.reduceLT, Int.reduceLE, Int.reduceEq, Int.reduceToNat, Int.reduceAdd, Int.reduceSub, Int.reduceNeg]
  refine loop2 (fun n st => ∃ i A, st = ⟨A, M, [], none⟩ ∧ n = s.length - i ∧ i ≤ s.length ∧ A 0 = .int .i64 c ∧ A 1 = .str s ∧ A 5 = .int .i64 i ∧ ∀ x ∈ s.take i, isF c x.toNat = true) s.length ⟨0, _, rfl, by omega, by omega, by simp +contextual only [vq, vc, ve, vv, vn, vl, ↓reduceIte, Nat.reduceEqDiff, Nat.reduceAdd, Nat.reduceMul, Nat.reduceSub, Nat.reduceLeDiff, Nat.reduceLT, Nat.reduceBEq, Nat.reduceBNe, reduceCtorEq, Int.reduceBEq, Int.reduceBNe, Int.reduceLT, Int.reduceLE, Int.reduceEq, Int.reduceToNat, Int.reduceAdd, Int.reduceSub, Int.reduceNeg], by simp +contextual only [vq, vc, ve, vv, vn, vl, ↓reduceIte, Nat.reduceEqDiff, Nat.reduceAdd, Nat.reduceMul, Nat.reduceSub, Nat.reduceLeDiff, Nat.reduceLT, Nat.reduceBEq, Nat.reduceBNe, reduceCtorEq, Int.reduceBEq, Int.reduceBNe, Int.reduceLT, Int.reduceLE, Int.reduceEq, Int.reduceToNat, Int.reduceAdd, Int.reduceSub, Int.reduceNeg], by simp +contextual only [vq, vc, ve, vv, vn, vl, ↓reduceIte, Nat.reduceEqDiff, Nat.reduceAdd, Nat.reduceMul, Nat.reduceSub, Nat.reduceLeDiff, Nat.reduceLT, Nat.reduceBEq, Nat.reduceBNe, reduceCtorEq, Int.reduceBEq, Int.reduceBNe, Int.reduceLT, Int.reduceLE, Int.reduceEq, Int.reduceToNat, Int.reduceAdd, Int.reduceSub, Int.reduceNeg]; rfl, by simp⟩ fun J hJ n st hI => ?_
  obtain ⟨i, A, rfl, rfl, hi, A0, A1, A5, hall⟩ := hI
  simp +contextual only [vq, vc, ve, vv, vn, vl, ↓reduceIte, Nat.reduceEqDiff, Nat.reduceAdd, Nat.reduceMul, Nat.reduceSub, Nat.reduceLeDiff, Nat.reduceLT, Nat.reduceBEq, Nat.reduceBNe, reduceCtorEq, Int.reduceBEq, Int.reduceBNe, Int.reduceLT, Int.reduceLE, Int.reduceEq, Int.reduceToNat, Int.reduceAdd, Int.reduceSub, Int.reduceNeg, A1, A5]
  refine br2_dec (fun hlt => ?_) (fun hge => ?_)
  · simp +contextual only [vq, vc, ve, vv, vn, vl, ↓reduceIte, Nat.reduceEqDiff, Nat.reduceAdd, Nat.reduceMul, Nat.reduceSub, Nat.reduceLeDiff, Nat.reduceLT, Nat.reduceBEq, Nat.reduceBNe, reduceCtorEq, Int.reduceBEq, Int.reduceBNe, Int.reduceLT, Int.reduceLE, Int.reduceEq, Int.reduceToNat, Int.reduceAdd, Int.reduceSub, Int.reduceNeg, A0, A1, A5, get_byte hlt, callR_val (c_r01_Is _ _ _ hc)]
    refine br2_mk (fun hp => ?_) (fun hp => ?_)
    · have hp : isF c (s[i]).toNat = false := by simpa using hp
      have e : sp c s = i := tw_at (p := fun b => isF c b.toNat) hall (get_byte hlt) hp
      simp +contextual only [vq, vc, ve, vv, vn, vl, ↓reduceIte, Nat.reduceEqDiff, Nat.reduceAdd, Nat.reduceMul, Nat.reduceSub, Nat.reduceLeDiff, Nat.reduceLT, Nat.reduceBEq, Nat.reduceBNe, reduceCtorEq, Int.reduceBEq, Int.reduceBNe, Int.reduceLT, Int.reduceLE, Int.reduceEq, Int.reduceToNat, Int.reduceAdd, Int.reduceSub, Int.reduceNeg, A5, hl, e]
    · have hp : isF c (s[i]).toNat = true := by simpa using hp
      simp +contextual only [vq, vc, ve, vv, vn, vl, ↓reduceIte, Nat.reduceEqDiff, Nat.reduceAdd, Nat.reduceMul, Nat.reduceSub, Nat.reduceLeDiff, Nat.reduceLT, Nat.reduceBEq, Nat.reduceBNe, reduceCtorEq, Int.reduceBEq, Int.reduceBNe, Int.reduceLT, Int.reduceLE, Int.reduceEq, Int.reduceToNat, Int.reduceAdd, Int.reduceSub, Int.reduceNeg, A5, wsucc hlt hN]
      exact again2 hJ (s.length - (i + 1)) (by omega) ⟨i + 1, _, rfl, rfl, by omega, by simp +contextual only [vq, vc, ve, vv, vn, vl, ↓reduceIte, Nat.reduceEqDiff, Nat.reduceAdd, Nat.reduceMul, Nat.reduceSub, Nat.reduceLeDiff, Nat.reduceLT, Nat.reduceBEq, Nat.reduceBNe, reduceCtorEq, Int.reduceBEq, Int.reduceBNe, Int.reduceLT, Int.reduceLE, Int.reduceEq, Int.reduceToNat, Int.reduceAdd, Int.reduceSub, Int.reduceNeg, A0], by simp +contextual only [vq, vc, ve, vv, vn, vl, ↓reduceIte, Nat.reduceEqDiff, Nat.reduceAdd, Nat.reduceMul, Nat.reduceSub, Nat.reduceLeDiff, Nat.reduceLT, Nat.reduceBEq, Nat.reduceBNe, reduceCtorEq, Int.reduceBEq, Int.reduceBNe, Int.reduceLT, Int.reduceLE, Int.reduceEq, Int.reduceToNat, Int.reduceAdd, Int.reduceSub, Int.reduceNeg, A1], by simp +contextual only [vq, vc, ve, vv, vn, vl, ↓reduceIte, Nat.reduceEqDiff, Nat.reduceAdd, Nat.reduceMul, Nat.reduceSub, Nat.reduceLeDiff, Nat.reduceLT, Nat.reduceBEq, Nat.reduceBNe, reduceCtorEq, Int.reduceBEq, Int.reduceBNe, Int.reduceLT, Int.reduceLE, Int.reduceEq, Int.reduceToNat, Int.reduceAdd, Int.reduceSub, Int.reduceNeg], take_next (p := fun b => isF c b.toNat) hlt hall hp⟩
  · have he : i = s.length := by omega
    subst he
    rw [List.take_length] at hall
    have e : sp c s = s.length := tw_end (p := fun b => isF c b.toNat) hall
    simp +contextual only [vq, vc, ve, vv, vn, vl, ↓reduceIte, Nat.reduceEqDiff, Nat.reduceAdd, Nat.reduceMul, Nat.reduceSub, Nat.reduceLeDiff, Nat.reduceLT, Nat.reduceBEq, Nat.reduceBNe, reduceCtorEq, Int.reduceBEq, Int.reduceBNe, Int.reduceLT, Int.reduceLE, Int.reduceEq, Int.reduceToNat, Int.reduceAdd, Int.reduceSub, Int.reduceNeg, A1, hl, e]
theorem c_r01_Span (m : Mem) (c : Int) (s : List UInt8) (k : Nat) (hc : 1 ≤ c ∧ c ≤ 14) (hk : k ≤ s.length) (hN : s.length ≤ 4611686018427387904) :
    Go.Ev.Comes T G f_r01_Span [.int .i64 c, .str s, .int .i64 k] m none ⟨.val (.int .i64 (k + sp c (s.drop k) : Nat)), m, none⟩ := by
  refine comes2 T_r01_Span rfl fun M hg hlen hlow => ?_
  have hl : m.bl.length ≤ M.low := by omega
  simp only [F_r01_Span]
  simp +contextual only [vq, vc, ve, vv, vn, vl, ↓reduceIte, Nat.reduceEqDiff, Nat.reduceAdd, Nat.reduceMul, Nat.reduceSub, Nat.reduceLeDiff, Nat.reduceLT, Nat.reduceBEq, Nat.reduceBNe, reduceCtorEq, Int.reduceBEq, Int.reduceBNe, Int.reduceLT, Int.reduceLE, Int.reduceEq, Int.reduceToNat, Int.reduceAdd, Int.reduceSub, Int.reduceNeg]
  by_cases h : s.length ≤ k
  · have e : k + sp c (s.drop k) = k := by rw [List.drop_eq_nil_of_le h]; rfl
    simp +contextual only [vq, vc, ve, vv, vn, vl, ↓reduceIte, Nat.reduceEqDiff, Nat.reduceAdd, Nat.reduceMul, Nat.reduceSub, Nat.reduceLeDiff, Nat.reduceLT, Nat.reduceBEq, Nat.reduceBNe, reduceCtorEq, Int.reduceBEq, Int.reduceBNe, Int.reduceLT, Int.reduceLE, Int.reduceEq, Int.reduceToNat, Int.reduceAdd, Int.reduceSub, Int.reduceNeg, h, hl, e]
  · have hle := sp_le c (s.drop k)
    rw [List.length_drop] at hle
    simp +contextual only [vq, vc, ve, vv, vn, vl, ↓reduceIte, Nat.reduceEqDiff, Nat.reduceAdd, Nat.reduceMul, Nat.reduceSub, Nat.reduceLeDiff, Nat.reduceLT, Nat.reduceBEq, Nat.reduceBNe, reduceCtorEq, Int.reduceBEq, Int.reduceBNe, Int.reduceLT, Int.reduceLE, Int.reduceEq, Int.reduceToNat, Int.reduceAdd, Int.reduceSub, Int.reduceNeg, h, hk, callR_val (c_r01_Bad _ _ _ hc (show (s.drop k).length ≤ _ by rw [List.length_drop]; omega)), hl, wrap_of (show (k : Int) + (sp c (s.drop k) : Nat) = ((k + sp c (s.drop k) : Nat) : Int) by omega) (by omega)]
end Go.Proofs.YtmjoaiccbghijaaDoor.paramRcpts

namespace Go.Proofs.YtmjoaiccbghijaaDoor.paramRcpts
open Go.Ev hiding Comes
variable [GG]

/-- How far it is to a byte, from a place on. -/
theorem c_r10_tillB (m : Mem) (s : List UInt8) (i : Nat) (c : UInt8) (hi : i ≤ s.length) (hs : s.length ≤ 1000000000000) : Go.Ev.Comes T G f_r10_till [.str s, .int .i64 (i : Nat), .int .u8 c.toNat] m none ⟨.val (.int .i64 (i + tilB c (s.drop i) : Nat)), m, none⟩ := by
  refine comes2 T_r10_till rfl fun M hg hlen hlow => ?_
  have hl : m.bl.length ≤ M.low := by omega
  simp only [F_r10_till]
  simp +contextual only [vq, vc, ve, vv, vn, vl, ↓reduceIte, Nat.reduceEqDiff, Nat.reduceAdd, Nat.reduceMul, Nat.reduceSub, Nat.reduceLeDiff, Nat.reduceLT, Nat.reduceBEq, Nat.reduceBNe, reduceCtorEq, Int.reduceBEq, Int.reduceBNe, Int.reduceLT, Int.reduceLE, Int.reduceEq, Int.reduceToNat, Int.reduceAdd, Int.reduceSub, Int.reduceNeg]
  refine loop2 (fun n st => ∃ j A, st = ⟨A, M, [], none⟩ ∧ n = s.length - j ∧ i ≤ j ∧ j ≤ s.length ∧ A 0 = .str s ∧ A 1 = .int .i64 (j : Nat) ∧ A 2 = .int .u8 c.toNat ∧ ∀ x ∈ (s.drop i).take (j - i), (x != c) = true) (s.length - i) ⟨i, _, rfl, by omega, by omega, by omega, by simp +contextual only [vq, vc, ve, vv, vn, vl, ↓reduceIte, Nat.reduceEqDiff, Nat.reduceAdd, Nat.reduceMul, Nat.reduceSub, Nat.reduceLeDiff, Nat.reduceLT, Nat.reduceBEq, Nat.reduceBNe, reduceCtorEq, Int.reduceBEq, Int.reduceBNe, Int.reduceLT, Int.reduceLE, Int.reduceEq, Int.reduceToNat, Int.reduceAdd, Int.reduceSub, Int.reduceNeg], by simp +contextual only [vq, vc, ve, vv, vn, vl, ↓reduceIte, Nat.reduceEqDiff, Nat.reduceAdd, Nat.reduceMul, Nat.reduceSub, Nat.reduceLeDiff, Nat.reduceLT, Nat.reduceBEq, Nat.reduceBNe, reduceCtorEq, Int.reduceBEq, Int.reduceBNe, Int.reduceLT, Int.reduceLE, Int.reduceEq, Int.reduceToNat, Int.reduceAdd, Int.reduceSub, Int.reduceNeg], by simp +contextual only [vq, vc, ve, vv, vn, vl, ↓reduceIte, Nat.reduceEqDiff, Nat.reduceAdd, Nat.reduceMul, Nat.reduceSub, Nat.reduceLeDiff, Nat.reduceLT, Nat.reduceBEq, Nat.reduceBNe, reduceCtorEq, Int.reduceBEq, Int.reduceBNe, Int.reduceLT, Int.reduceLE, Int.reduceEq, Int.reduceToNat, Int.reduceAdd, Int.reduceSub, Int.reduceNeg], by simp⟩ fun J hJ n st hI => ?_
  obtain ⟨j, A, rfl, rfl, hij, hj, A0, A1, A2, hall⟩ := hI
  by_cases hlt : j < s.length
  · have hd : (s.drop i)[j - i]? = some s[j] := by rw [List.getElem?_drop, show i + (j - i) = j by omega, get_byte hlt]
    have hq : (((s[j]).toNat : Int) != (c.toNat : Int)) = (s[j] != c) := by simp only [bne, u8_eq]
    simp +contextual only [vq, vc, ve, vv, vn, vl, ↓reduceIte, Nat.reduceEqDiff, Nat.reduceAdd, Nat.reduceMul, Nat.reduceSub, Nat.reduceLeDiff, Nat.reduceLT, Nat.reduceBEq, Nat.reduceBNe, reduceCtorEq, Int.reduceBEq, Int.reduceBNe, Int.reduceLT, Int.reduceLE, Int.reduceEq, Int.reduceToNat, Int.reduceAdd, Int.reduceSub, Int.reduceNeg, A0, A1, A2, hlt, get_byte hlt, hq]
    refine br2_mk (fun hp => ?_) (fun hp => ?_)
    · simp +contextual only [vq, vc, ve, vv, vn, vl, ↓reduceIte, Nat.reduceEqDiff, Nat.reduceAdd, Nat.reduceMul, Nat.reduceSub, Nat.reduceLeDiff, Nat.reduceLT, Nat.reduceBEq, Nat.reduceBNe, reduceCtorEq, Int.reduceBEq, Int.reduceBNe, Int.reduceLT, Int.reduceLE, Int.reduceEq, Int.reduceToNat, Int.reduceAdd, Int.reduceSub, Int.reduceNeg, A1, wsucc hlt (by omega)]
      refine again2 hJ (s.length - (j + 1)) (by omega) ⟨j + 1, _, rfl, rfl, by omega, by omega, by simp +contextual only [vq, vc, ve, vv, vn, vl, ↓reduceIte, Nat.reduceEqDiff, Nat.reduceAdd, Nat.reduceMul, Nat.reduceSub, Nat.reduceLeDiff, Nat.reduceLT, Nat.reduceBEq, Nat.reduceBNe, reduceCtorEq, Int.reduceBEq, Int.reduceBNe, Int.reduceLT, Int.reduceLE, Int.reduceEq, Int.reduceToNat, Int.reduceAdd, Int.reduceSub, Int.reduceNeg, A0], by simp +contextual only [vq, vc, ve, vv, vn, vl, ↓reduceIte, Nat.reduceEqDiff, Nat.reduceAdd, Nat.reduceMul, Nat.reduceSub, Nat.reduceLeDiff, Nat.reduceLT, Nat.reduceBEq, Nat.reduceBNe, reduceCtorEq, Int.reduceBEq, Int.reduceBNe, Int.reduceLT, Int.reduceLE, Int.reduceEq, Int.reduceToNat, Int.reduceAdd, Int.reduceSub, Int.reduceNeg], by simp +contextual only [vq, vc, ve, vv, vn, vl, ↓reduceIte, Nat.reduceEqDiff, Nat.reduceAdd, Nat.reduceMul, Nat.reduceSub, Nat.reduceLeDiff, Nat.reduceLT, Nat.reduceBEq, Nat.reduceBNe, reduceCtorEq, Int.reduceBEq, Int.reduceBNe, Int.reduceLT, Int.reduceLE, Int.reduceEq, Int.reduceToNat, Int.reduceAdd, Int.reduceSub, Int.reduceNeg, A2], ?_⟩
      obtain ⟨h1, h2⟩ := List.getElem?_eq_some_iff.1 hd
      have := take_next (p := (· != c)) h1 hall (by rw [h2]; exact hp)
      rwa [show j - i + 1 = j + 1 - i by omega] at this
    · have e : tilB c (s.drop i) = j - i := tw_at (p := (· != c)) hall hd hp
      have e2 : i + tilB c (s.drop i) = j := by omega
      simp +contextual only [vq, vc, ve, vv, vn, vl, ↓reduceIte, Nat.reduceEqDiff, Nat.reduceAdd, Nat.reduceMul, Nat.reduceSub, Nat.reduceLeDiff, Nat.reduceLT, Nat.reduceBEq, Nat.reduceBNe, reduceCtorEq, Int.reduceBEq, Int.reduceBNe, Int.reduceLT, Int.reduceLE, Int.reduceEq, Int.reduceToNat, Int.reduceAdd, Int.reduceSub, Int.reduceNeg, A1, hl, e2]
  · have he : j = s.length := by omega
    subst he
    have e : tilB c (s.drop i) = s.length - i := by
      rw [List.take_of_length_le (by simp)] at hall
      have := tw_end (p := (· != c)) hall
      simpa [tilB] using this
    have e2 : i + tilB c (s.drop i) = s.length := by omega
    simp +contextual only [vq, vc, ve, vv, vn, vl, ↓reduceIte, Nat.reduceEqDiff, Nat.reduceAdd, Nat.reduceMul, Nat.reduceSub, Nat.reduceLeDiff, Nat.reduceLT, Nat.reduceBEq, Nat.reduceBNe, reduceCtorEq, Int.reduceBEq, Int.reduceBNe, Int.reduceLT, Int.reduceLE, Int.reduceEq, Int.reduceToNat, Int.reduceAdd, Int.reduceSub, Int.reduceNeg, A0, A1, A2, hlt, hl, e2]
def typI (s : List UInt8) : Int := match typedS s with
  | some n => (n : Int)
  | none => -1
theorem c_r10_typed (m : Mem) (s : List UInt8) (hs : s.length ≤ 1000000000) : Go.Ev.Comes T G f_r10_typed [.str s] m none ⟨.val (.int .i64 (typI s)), m, none⟩ := by
  refine comes2 T_r10_typed rfl fun M hg hlen hlow => ?_
  have hl : m.bl.length ≤ M.low := by omega
  have h0 := c_r10_tillB M s 0 59 (by omega) (by omega)
  rw [Nat.zero_add, List.drop_zero] at h0
  have h0 : Go.Ev.Comes T G f_r10_till [.str s, .int .i64 0, .int .u8 59] M none ⟨.val (.int .i64 (tilB 59 s : Nat)), M, none⟩ := h0
  have h1 := c_r01_Span M 10 s 0 (by omega) (by omega) (by omega)
  rw [Nat.zero_add, List.drop_zero] at h1
  have h1 : Go.Ev.Comes T G f_r01_Span [.int .i64 10, .str s, .int .i64 0] M none ⟨.val (.int .i64 (sp 10 s : Nat)), M, none⟩ := h1
  have z : ∀ q : Bool, decide (tilB 59 s = 0) = q → (((tilB 59 s : Nat) : Int) == 0) = q := fun q h => by rw [← h, Bool.eq_iff_iff, beq_iff_eq, decide_eq_true_eq]; omega
  simp only [F_r10_typed]
  by_cases a1 : tilB 59 s = 0
  · have e : (typI s) = -1 := by rw [typI, typed_til, if_pos (.inl a1)]
    rw [e]
    have z1 := z true (by simpa using a1)
    simp +contextual only [vq, vc, ve, vv, vn, vl, ↓reduceIte, Nat.reduceEqDiff, Nat.reduceAdd, Nat.reduceMul, Nat.reduceSub, Nat.reduceLeDiff, Nat.reduceLT, Nat.reduceBEq, Nat.reduceBNe, reduceCtorEq, Int.reduceBEq, Int.reduceBNe, Int.reduceLT, Int.reduceLE, Int.reduceEq, Int.reduceToNat, Int.reduceAdd, Int.reduceSub, Int.reduceNeg, callR_val h0, callR_val h1, z1, hl]
  · have z1 := z false (by simpa using a1)
    by_cases a2 : tilB 59 s = s.length
    · have e : (typI s) = -1 := by rw [typI, typed_til, if_pos (.inr (.inl a2))]
      rw [e]
      have z2 : (tilB 59 s == s.length) = true := by simpa using a2
      simp +contextual only [vq, vc, ve, vv, vn, vl, ↓reduceIte, Nat.reduceEqDiff, Nat.reduceAdd, Nat.reduceMul, Nat.reduceSub, Nat.reduceLeDiff, Nat.reduceLT, Nat.reduceBEq, Nat.reduceBNe, reduceCtorEq, Int.reduceBEq, Int.reduceBNe, Int.reduceLT, Int.reduceLE, Int.reduceEq, Int.reduceToNat, Int.reduceAdd, Int.reduceSub, Int.reduceNeg, callR_val h0, callR_val h1, z1, z2, hl]
    · have z2 : (tilB 59 s == s.length) = false := by simpa using a2
      by_cases a3 : sp 10 s = tilB 59 s
      · have e : (typI s) = (tilB 59 s : Nat) := by rw [typI, typed_til, if_neg (by simp [a1, a2, a3])]
        rw [e]
        have z3 : (sp 10 s != tilB 59 s) = false := by simpa using a3
        simp +contextual only [vq, vc, ve, vv, vn, vl, ↓reduceIte, Nat.reduceEqDiff, Nat.reduceAdd, Nat.reduceMul, Nat.reduceSub, Nat.reduceLeDiff, Nat.reduceLT, Nat.reduceBEq, Nat.reduceBNe, reduceCtorEq, Int.reduceBEq, Int.reduceBNe, Int.reduceLT, Int.reduceLE, Int.reduceEq, Int.reduceToNat, Int.reduceAdd, Int.reduceSub, Int.reduceNeg, callR_val h0, callR_val h1, z1, z2, z3, hl]
      · have e : (typI s) = -1 := by rw [typI, typed_til, if_pos (.inr (.inr a3))]
        rw [e]
        have z3 : (sp 10 s != tilB 59 s) = true := by simpa using a3
        simp +contextual only [vq, vc, ve, vv, vn, vl, ↓reduceIte, Nat.reduceEqDiff, Nat.reduceAdd, Nat.reduceMul, Nat.reduceSub, Nat.reduceLeDiff, Nat.reduceLT, Nat.reduceBEq, Nat.reduceBNe, reduceCtorEq, Int.reduceBEq, Int.reduceBNe, Int.reduceLT, Int.reduceLE, Int.reduceEq, Int.reduceToNat, Int.reduceAdd, Int.reduceSub, Int.reduceNeg, callR_val h0, callR_val h1, z1, z2, z3, hl]
end Go.Proofs.YtmjoaiccbghijaaDoor.paramRcpts

namespace Go.Proofs.YtmjoaiccbghijaaDoor.paramRcpts
open Go.Ev hiding Comes
variable [GG]

theorem part_getN {m : Mem} {a : Ad} {s : List UInt8} {l h : Nat} (hg : m.getN G a s.length = some (bytesE s)) (h1 : l ≤ h) (h2 : h ≤ s.length) : m.getN G (a.plus l) (h - l) = some (bytesE ((s.drop l).take (h - l))) := by
  by_cases h0 : h - l = 0
  · rw [h0]
    exact nr_true rfl _
  · have hg : m.getN G (a.plus 0) s.length = some (bytesE s) := by rw [Ad.plus_zero]; exact hg
    have := getN_part (k := l) (j := h - l) (ds := bytesE ((s.drop l).take (h - l))) hg (by omega) ⟨by rw [bytes_len]; omega, by simp [bytesE]⟩
    rwa [Nat.zero_add] at this
theorem tagB_ok' : TagOk tagB := .inr ⟨tagB / typeK, by decide, rfl⟩
/-- A growing list of private bytes; what may be written besides: its own block and those of S. -/
def PartsOut (n0 : Nat) (S : Nat → Prop) (k : Option Nat) (N : Mem) (v : EV) (ll : List (List UInt8)) : Prop :=
  ∃ xs : List EV, xs.length = ll.length ∧ Priv k 1 0 N v xs ll.length ∧ (∀ j, k = some j → n0 ≤ j) ∧ ∀ (p : Nat) (u : EV) (s : List UInt8), xs[p]? = some u → ll[p]? = some s → Off (fun j => k = some j ∨ S j) (fun M => BytesAt G M u s) N
theorem PartsOut.nil {n0 : Nat} {S : Nat → Prop} {N : Mem} : PartsOut n0 S none N (.slice none 0 0 0) [] := ⟨[], rfl, Priv.nil, (fun _ h => by cases h), fun p u s h => by simp at h⟩
theorem PartsOut.rows {n0 : Nat} {S : Nat → Prop} {k : Option Nat} {N : Mem} {v : EV} {ll : List (List UInt8)} (h : PartsOut n0 S k N v ll) : ByteRows G N v ll := by
  obtain ⟨xs, h1, h2, _, h4⟩ := h
  have e : xs = (xs.map fun x => [x]).flatten := by
    clear h1 h2 h4
    induction xs with
    | nil => rfl
    | cons x xs ih => simpa using ih
  rw [e] at h2
  exact ⟨xs, h1, h2.rows (by simp [h1]) (by simp), fun i x s hx hs => (h4 i x s hx hs).now⟩
/-- Other blocks are written. -/
theorem PartsOut.step {n0 : Nat} {S S' : Nat → Prop} {k : Option Nat} {N N' : Mem} {v : EV} {ll : List (List UInt8)} (h : PartsOut n0 S k N v ll) (hl : N.bl.length ≤ N'.bl.length) (hk : ∀ j, k = some j → N'.bl[j]? = N.bl[j]?) (hj : ∀ j, j < N.bl.length → k ≠ some j → ¬ S j → N'.bl[j]? = N.bl[j]? ∧ ¬ S' j) : PartsOut n0 S' k N' v ll := by
  obtain ⟨xs, h1, h2, h3, h4⟩ := h
  exact ⟨xs, h1, h2.keep hk, h3, fun p u s hu hs => (h4 p u s hu hs).step hl fun j hjl hn => by
    obtain ⟨e1, e2⟩ := hj j hjl (fun h => hn (.inl h)) (fun h => hn (.inr h))
    exact ⟨e1, fun h => h.elim (fun h => hn (.inl h)) e2⟩⟩
theorem PartsOut.slice {n0 : Nat} {S : Nat → Prop} {k : Option Nat} {N : Mem} {v : EV} {ll : List (List UInt8)} (h : PartsOut n0 S k N v ll) : ∃ a c e, v = .slice a ll.length c e := let ⟨_, _, h, _⟩ := h; h.slice
/-- Private bytes are put behind. -/
theorem PartsOut.add {n0 e n tg : Nat} {S : Nat → Prop} {k : Option Nat} {N N1 : Mem} {v u : EV} {ll : List (List UInt8)} {s : List UInt8} (h : PartsOut n0 S k N v ll) (hu : Priv (some e) 1 tg N u (bytesE s) n) (hke : k ≠ some e) (hS : ¬ S e) (hSl : ∀ j, S j → j < N.bl.length) (h1 : N1 = N.push (.cells [u] 0 true)) (h0 : n0 ≤ N.bl.length) (hl : ll.length ≤ 1000000000) :
    ∃ v' N' k', appendE G N1 1 24 0 v [u] 1 = some (v', N') ∧ PartsOut n0 S k' N' v' (ll ++ [s]) ∧ (k' = k ∨ k = none ∧ k' = some N1.bl.length) ∧ (∀ j, j < N.bl.length → k ≠ some j → N'.bl[j]? = N.bl[j]?) ∧ N.bl.length ≤ N'.bl.length ∧ (n0 ≤ N.low → n0 ≤ N'.low) := by
  obtain ⟨xs, x1, x2, x3, x4⟩ := h
  have hg : Grown N N1 := by rw [h1]; exact Grown.rfl'.push
  have l1 : N1.bl.length = N.bl.length + 1 := by rw [h1]; simp [Mem.push]
  have w1 : N1.low = N.low := by rw [h1]; rfl
  obtain ⟨v', N', k', ha, hp, hk, hj, hle, hw⟩ := (x2.grown hg).app (G := G) (bytes := 24) (cnt := 1) (new := [u]) tagOk_0 (by omega) rfl (by omega)
  have hkl := fun j (hj : k = some j) => x2.ltk hj
  have agree : ∀ j, j < N.bl.length → k ≠ some j → N'.bl[j]? = N.bl[j]? := fun j h1 h2 => by
    rw [hj j (by omega) (fun h => h2 h.symm), hg.at h1]
  have kk : ∀ j, j < N.bl.length → k' = some j → k = some j := fun j h1 h2 => by
    rcases hk with h | ⟨_, h⟩
    · rw [← h, h2]
    · rw [h] at h2
      cases h2
      omega
  refine ⟨v', N', k', ha, ⟨xs ++ [u], by simp [x1], by simpa using hp, fun j hj => ?_, fun p w t hw ht => ?_⟩, hk, agree, by omega, fun h => hw n0 (by omega) (by omega) x3⟩
  · rcases hk with h | ⟨_, h⟩
    · exact x3 j (by rw [← h, hj])
    · rw [h] at hj
      cases hj
      omega
  · by_cases hpl : p < xs.length
    · rw [List.getElem?_append_left hpl] at hw
      rw [List.getElem?_append_left (by omega)] at ht
      exact (x4 p w t hw ht).step (by omega) fun j h1 h2 => ⟨agree j h1 fun h => h2 (.inl h), fun h => h.elim (fun h => h2 (.inl (kk j h1 h))) fun h => h2 (.inr h)⟩
    · have hpe : p = xs.length := by
        have := (List.getElem?_eq_some_iff.1 hw).1
        simp at this
        omega
      subst hpe
      rw [List.getElem?_append_right (Nat.le_refl _), Nat.sub_self] at hw
      rw [List.getElem?_append_right (by omega), show xs.length - ll.length = 0 by omega] at ht
      simp at hw ht
      subst hw ht
      exact (hu.off (S := fun j => k = some j ∨ S j) (fun h => h.elim hke hS)).step (by omega) fun j h1 h2 => ⟨agree j h1 fun h => h2 (.inl h), fun h => h.elim (fun h => h2 (.inl (kk j h1 h))) fun h => h2 (.inr h)⟩
/-- A copy of bytes: what stands is put behind an empty literal. -/
theorem copy_lit {N N1 : Mem} {y : EV} {s : List UInt8} (h1 : N1 = N.push (.cells [] 0 true)) (hy : BytesAt G N y s) (hs : s.length ≤ 1000000000000) :
    ∃ u N2, appE G N1 1 1 tagB (.slice (some ⟨.mem N.bl.length 0, 0⟩) 0 0 1) (srcCells G N1 1 y) = some (u, N2) ∧ Priv (some N.bl.length) 1 tagB N2 u (bytesE s) s.length ∧ Grown N N2 ∧ (∀ n0, n0 ≤ N.low → n0 ≤ N.bl.length → n0 ≤ N2.low) := by
  have hg : Grown N N1 := by rw [h1]; exact Grown.rfl'.push
  have l1 : N1.bl.length = N.bl.length + 1 := by rw [h1]; simp [Mem.push]
  have w1 : N1.low = N.low := by rw [h1]; rfl
  obtain ⟨u, N2, k', ha, hp, hk, hj, hle, hw⟩ := (Priv.lit (esz := 1) (tag := tagB) (n := 0) h1 rfl).app (G := G) (bytes := 1) (cnt := s.length) (new := bytesE s) tagB_ok' (by omega) (by simp [bytesE]) (by omega)
  have hk : k' = some N.bl.length := by
    rcases hk with h | ⟨h, _⟩
    · exact h
    · cases h
  subst hk
  rw [List.nil_append, Nat.zero_add] at hp
  refine ⟨u, N2, ?_, hp, grown_of (by omega) fun j h => by rw [hj j (by omega) (fun h => by cases h; omega), hg.at h], fun n0 h h2 => hw n0 (by omega) (by omega) (fun j hj => by cases hj; omega)⟩
  rw [(hy.grown hg).src]
  exact ha
/-- Private bytes above M grow. -/
theorem priv_grow {k : Option Nat} {M N : Mem} {v : EV} {t : List UInt8} {n1 : Nat} (hv : Priv k 1 tagB N v (bytesE t) t.length) (hk : ∀ j, k = some j → M.bl.length ≤ j) (hgN : Grown M N) (hn : n1 ≤ M.bl.length) (hlN : n1 ≤ N.low) (t2 : List UInt8) (hs : t.length + t2.length ≤ 1000000000000) :
    ∃ v' N' k', appendE G N 1 1 tagB v (bytesE t2) t2.length = some (v', N') ∧ Priv k' 1 tagB N' v' (bytesE (t ++ t2)) (t ++ t2).length ∧ (∀ j, k' = some j → M.bl.length ≤ j) ∧ Grown M N' ∧ n1 ≤ N'.low := by
  have hle := hgN.le
  obtain ⟨v', N', k', ha, hp, hkk, hj, hl2, hw⟩ := hv.app (G := G) (bytes := 1) (cnt := t2.length) (new := bytesE t2) tagB_ok' (by omega) (by simp [bytesE]) (by omega)
  rw [← bytes_app, ← List.length_append] at hp
  refine ⟨v', N', k', ha, hp, fun j hj' => ?_, grown_of (by omega) fun j hj' => by rw [hj j (by omega) fun h => by have := hk j h.symm; omega, hgN.at hj'], hw _ hlN (by omega) fun j hj' => by have := hk j hj'; omega⟩
  rcases hkk with h | ⟨_, h⟩
  · exact hk j (by rw [← h, hj'])
  · rw [h] at hj'; cases hj'; omega
end Go.Proofs.YtmjoaiccbghijaaDoor.paramRcpts

namespace Go.Proofs.YtmjoaiccbghijaaDoor.paramRcpts
open Go.Ev hiding Comes
variable [GG]

def unxE (r : List UInt8 × Int × Int) : EV := .tuple [.str r.1, .agg [.int .i64 r.2.1, .int .i64 r.2.2]]
/-- Where a reader of xtext stands. -/
def UnxI (m M1 : Mem) (b : Nat) (s : List UInt8) (n i f : Nat) (o : List UInt8) (k : Option Nat) (v : EV) (A : Fr) (N : Mem) : Prop :=
  n = s.length - i ∧ i ≤ s.length ∧ A 0 = .str s ∧ A 3 = .ptr (some ⟨.mem b 0, 0⟩) ∧ A 4 = v ∧ A 5 = .int .i64 (i : Nat) ∧ Priv k 1 tagB N v (bytesE o) o.length ∧ (∀ j, k = some j → M1.bl.length ≤ j) ∧ Grown M1 N ∧ m.bl.length ≤ N.low ∧ s.length - i < f ∧ unx s f i o = unxS s ∧ o.length ≤ i
theorem unx_lit {m M1 N N1 : Mem} {k : Option Nat} {v : EV} {o : List UInt8} {c : UInt8} {i : Nat} (h : Priv k 1 tagB N v (bytesE o) o.length) (hk : ∀ j, k = some j → M1.bl.length ≤ j) (e : N1 = N.push (.cells [byteE c] 0 true)) (hg : Grown M1 N) (hm : m.bl.length ≤ M1.bl.length) (hl : m.bl.length ≤ N.low) (hi : o.length ≤ i) (hs : i ≤ 1000000000) :
    RowIs N1 N.bl.length [byteE c] ∧ ∃ v' N2 k', appendE G N1 1 1 tagB v [byteE c] 1 = some (v', N2) ∧ Priv k' 1 tagB N2 v' (bytesE (o ++ [c])) (o ++ [c]).length ∧ (∀ j, k' = some j → M1.bl.length ≤ j) ∧ Grown M1 N2 ∧ m.bl.length ≤ N2.low := by
  have g1 : Grown N N1 := by rw [e]; exact Grown.rfl'.push
  have l1 : N1.low = N.low := by rw [e]; rfl
  refine ⟨by rw [e]; exact row_push _ _, ?_⟩
  exact priv_grow (n1 := m.bl.length) (h.grown g1) hk (hg.trans g1) hm (by omega) [c] (by simp; omega)
theorem unx_err {m M1 N : Mem} {b : Nat} (R : RowIs M1 b [.int .i64 0, .int .i64 0]) (hg : Grown M1 N) (hl : m.bl.length ≤ N.low) (hb : m.bl.length ≤ b) (x y : Int) : ∃ N2, N.putN ⟨.mem b 0, 0⟩ [.int .i64 x, .int .i64 y] = some N2 ∧ N2.getN G ⟨.mem b 0, 0⟩ 2 = some [.int .i64 x, .int .i64 y] ∧ m.bl.length ≤ N2.low := by
  obtain ⟨N2, w1, w2, w3, w4⟩ := putN_row (off := 0) (vs := [.int .i64 x, .int .i64 y]) (R.grown hg) (by simp)
  have w2 : RowIs N2 b [.int .i64 x, .int .i64 y] := w2
  exact ⟨N2, w1, getN_row w2 (sub_all rfl), by omega⟩
end Go.Proofs.YtmjoaiccbghijaaDoor.paramRcpts

namespace Go.Proofs.YtmjoaiccbghijaaDoor.paramRcpts
open Go.Ev hiding Comes
variable [GG]

theorem cap_is : ∀ b : UInt8, (isF 4 b.toNat && (upS [b] == [b])) = capB b := by decide +kernel
theorem c_r10_capital (m : Mem) (s : List UInt8) (k : Nat) (hk : k < s.length) (hN : s.length ≤ 1000000000) : Go.Ev.Comes T G f_r10_capital [.str s, .int .i64 (k : Nat)] m none ⟨.val (.bool (capB s[k])), m, none⟩ := by
  refine comes2 T_r10_capital rfl fun M hg hlen hlow => ?_
  have hl : m.bl.length ≤ M.low := by omega
  have w1 : IntKind.i64.wrap ((k : Int) + 1) = ((k + 1 : Nat) : Int) := wrap_of (by omega) (by omega)
  have k1 : k ≤ k + 1 := by omega
  have k2 : k + 1 ≤ s.length := by omega
  have k3 : k + 1 - k = 1 := by omega
  have cut : List.take 1 (List.drop k s) = [s[k]] := by rw [List.drop_eq_getElem_cons hk]; rfl
  rw [← cap_is]
  simp only [F_r10_capital]
  cases h4 : isF 4 s[k].toNat with
  | false => simp +contextual only [vq, vc, ve, vv, vn, vl, ↓reduceIte, Nat.reduceEqDiff, Nat.reduceAdd, Nat.reduceMul, Nat.reduceSub, Nat.reduceLeDiff, Nat.reduceLT, Nat.reduceBEq, Nat.reduceBNe, reduceCtorEq, Int.reduceBEq, Int.reduceBNe, Int.reduceLT, Int.reduceLE, Int.reduceEq, Int.reduceToNat, Int.reduceAdd, Int.reduceSub, Int.reduceNeg, get_byte hk, callR_val (c_r01_Is _ 4 _ (by omega)), h4, w1, k1, k2, k3, cut, callR_val (c_r01_Upper _ [s[k]] (by simp)), hl]
  | true => simp +contextual only [vq, vc, ve, vv, vn, vl, ↓reduceIte, Nat.reduceEqDiff, Nat.reduceAdd, Nat.reduceMul, Nat.reduceSub, Nat.reduceLeDiff, Nat.reduceLT, Nat.reduceBEq, Nat.reduceBNe, reduceCtorEq, Int.reduceBEq, Int.reduceBNe, Int.reduceLT, Int.reduceLE, Int.reduceEq, Int.reduceToNat, Int.reduceAdd, Int.reduceSub, Int.reduceNeg, get_byte hk, callR_val (c_r01_Is _ 4 _ (by omega)), h4, w1, k1, k2, k3, cut, callR_val (c_r01_Upper _ [s[k]] (by simp)), hl]
def sixL : List UInt8 := [48, 49, 50, 51, 52, 53, 54, 55, 56, 57, 65, 66, 67, 68, 69, 70]
def six (n : Nat) : UInt8 := sixL.getD n 0
theorem six_cut (n : Fin 16) : List.take 1 (List.drop n.val [48, 49, 50, 51, 52, 53, 54, 55, 56, 57, 65, 66, 67, 68, 69, 70]) = [six n.val] := by revert n; decide +kernel
theorem six_same (n : Fin 16) : ∀ x : UInt8, capB x = true → sameU [six n.val] [x] = decide (n.val = hexV x) := by revert n; decide +kernel
theorem c_r01_Digit (m : Mem) (x : UInt8) (hx : capB x = true) : Go.Ev.Comes T G f_r01_Digit [.int .u8 x.toNat] m none ⟨.val (.int .i64 (hexV x : Nat)), m, none⟩ := by
  refine comes2 T_r01_Digit rfl fun M hg hlen hlow => ?_
  have hl : m.bl.length ≤ M.low := by omega
  have h16 := capB_lt x hx
  simp only [F_r01_Digit]
  simp +contextual only [vq, vc, ve, vv, vn, vl, ↓reduceIte, Nat.reduceEqDiff, Nat.reduceAdd, Nat.reduceMul, Nat.reduceSub, Nat.reduceLeDiff, Nat.reduceLT, Nat.reduceBEq, Nat.reduceBNe, reduceCtorEq, Int.reduceBEq, Int.reduceBNe, Int.reduceLT, Int.reduceLE, Int.reduceEq, Int.reduceToNat, Int.reduceAdd, Int.reduceSub, Int.reduceNeg]
  refine loop2 (fun n st => ∃ (i : Nat) (A : Fr) (N : Mem), st = ⟨A, N, [], none⟩ ∧ n = 16 - i ∧ i ≤ hexV x ∧ A 0 = .int .u8 x.toNat ∧ A 3 = .int .i64 (i : Nat) ∧ m.bl.length ≤ N.low) 16 ⟨0, _, _, rfl, by omega, by omega, by simp +contextual only [vq, vc, ve, vv, vn, vl, ↓reduceIte, Nat.reduceEqDiff, Nat.reduceAdd, Nat.reduceMul, Nat.reduceSub, Nat.reduceLeDiff, Nat.reduceLT, Nat.reduceBEq, Nat.reduceBNe, reduceCtorEq, Int.reduceBEq, Int.reduceBNe, Int.reduceLT, Int.reduceLE, Int.reduceEq, Int.reduceToNat, Int.reduceAdd, Int.reduceSub, Int.reduceNeg], by simp +contextual only [vq, vc, ve, vv, vn, vl, ↓reduceIte, Nat.reduceEqDiff, Nat.reduceAdd, Nat.reduceMul, Nat.reduceSub, Nat.reduceLeDiff, Nat.reduceLT, Nat.reduceBEq, Nat.reduceBNe, reduceCtorEq, Int.reduceBEq, Int.reduceBNe, Int.reduceLT, Int.reduceLE, Int.reduceEq, Int.reduceToNat, Int.reduceAdd, Int.reduceSub, Int.reduceNeg]; rfl, hl⟩ fun J hJ n st hI => ?_
  obtain ⟨i, A, N, rfl, rfl, hi, A0, A3, lN⟩ := hI
  have e16 : ((i : Int) < 16) = True := eq_true (by omega)
  have w1 : IntKind.i64.wrap ((i : Int) + 1) = ((i + 1 : Nat) : Int) := wrap_of (by omega) (by omega)
  have k1 : i ≤ i + 1 := by omega
  have k2 : ((i + 1 : Nat) : Int) ≤ ((16 : Nat) : Int) := by omega
  have k4 : i + 1 ≤ 16 := by omega
  have k3 : i + 1 - i = 1 := by omega
  have hcut := six_cut ⟨i, by omega⟩
  have hsame := six_same ⟨i, by omega⟩ x hx
  simp only at hcut hsame
  simp +contextual only [vq, vc, ve, vv, vn, vl, ↓reduceIte, Nat.reduceEqDiff, Nat.reduceAdd, Nat.reduceMul, Nat.reduceSub, Nat.reduceLeDiff, Nat.reduceLT, Nat.reduceBEq, Nat.reduceBNe, reduceCtorEq, Int.reduceBEq, Int.reduceBNe, Int.reduceLT, Int.reduceLE, Int.reduceEq, Int.reduceToNat, Int.reduceAdd, Int.reduceSub, Int.reduceNeg, A0, A3, e16, w1, k1, k2, k3, k4, hcut]
  refine new_mk fun M1 e1 => ?_
  have R1 : RowIs M1 N.bl.length [byteE x] := by rw [e1]; exact row_push _ _
  have l1 : M1.low = N.bl.length := by rw [e1]; rfl
  have g1 : M1.getN G ⟨.mem N.bl.length 0, 0⟩ 1 = some (bytesE [x]) := getN_row R1 (sub_all rfl)
  have hl1 : N.bl.length ≤ M1.low := by omega
  simp +contextual only [vq, vc, ve, vv, vn, vl, ↓reduceIte, Nat.reduceEqDiff, Nat.reduceAdd, Nat.reduceMul, Nat.reduceSub, Nat.reduceLeDiff, Nat.reduceLT, Nat.reduceBEq, Nat.reduceBNe, reduceCtorEq, Int.reduceBEq, Int.reduceBNe, Int.reduceLT, Int.reduceLE, Int.reduceEq, Int.reduceToNat, Int.reduceAdd, Int.reduceSub, Int.reduceNeg, g1, callR_val (c_r01_Same M1 [six i] [x] (by simp) (by simp)), hsame]
  rw [endD_new hl1]
  simp +contextual only [vq, vc, ve, vv, vn, vl, ↓reduceIte, Nat.reduceEqDiff, Nat.reduceAdd, Nat.reduceMul, Nat.reduceSub, Nat.reduceLeDiff, Nat.reduceLT, Nat.reduceBEq, Nat.reduceBNe, reduceCtorEq, Int.reduceBEq, Int.reduceBNe, Int.reduceLT, Int.reduceLE, Int.reduceEq, Int.reduceToNat, Int.reduceAdd, Int.reduceSub, Int.reduceNeg]
  refine br2_dec (fun hp => ?_) (fun hp => ?_)
  · subst hp
    simp +contextual only [vq, vc, ve, vv, vn, vl, ↓reduceIte, Nat.reduceEqDiff, Nat.reduceAdd, Nat.reduceMul, Nat.reduceSub, Nat.reduceLeDiff, Nat.reduceLT, Nat.reduceBEq, Nat.reduceBNe, reduceCtorEq, Int.reduceBEq, Int.reduceBNe, Int.reduceLT, Int.reduceLE, Int.reduceEq, Int.reduceToNat, Int.reduceAdd, Int.reduceSub, Int.reduceNeg, A3, lN]
  · simp +contextual only [vq, vc, ve, vv, vn, vl, ↓reduceIte, Nat.reduceEqDiff, Nat.reduceAdd, Nat.reduceMul, Nat.reduceSub, Nat.reduceLeDiff, Nat.reduceLT, Nat.reduceBEq, Nat.reduceBNe, reduceCtorEq, Int.reduceBEq, Int.reduceBNe, Int.reduceLT, Int.reduceLE, Int.reduceEq, Int.reduceToNat, Int.reduceAdd, Int.reduceSub, Int.reduceNeg, A3, w1]
    exact again2 hJ (16 - (i + 1)) (by omega) ⟨i + 1, _, _, rfl, rfl, by omega, by simp +contextual only [vq, vc, ve, vv, vn, vl, ↓reduceIte, Nat.reduceEqDiff, Nat.reduceAdd, Nat.reduceMul, Nat.reduceSub, Nat.reduceLeDiff, Nat.reduceLT, Nat.reduceBEq, Nat.reduceBNe, reduceCtorEq, Int.reduceBEq, Int.reduceBNe, Int.reduceLT, Int.reduceLE, Int.reduceEq, Int.reduceToNat, Int.reduceAdd, Int.reduceSub, Int.reduceNeg, A0], by simp +contextual only [vq, vc, ve, vv, vn, vl, ↓reduceIte, Nat.reduceEqDiff, Nat.reduceAdd, Nat.reduceMul, Nat.reduceSub, Nat.reduceLeDiff, Nat.reduceLT, Nat.reduceBEq, Nat.reduceBNe, reduceCtorEq, Int.reduceBEq, Int.reduceBNe, Int.reduceLT, Int.reduceLE, Int.reduceEq, Int.reduceToNat, Int.reduceAdd, Int.reduceSub, Int.reduceNeg], lN⟩
end Go.Proofs.YtmjoaiccbghijaaDoor.paramRcpts
