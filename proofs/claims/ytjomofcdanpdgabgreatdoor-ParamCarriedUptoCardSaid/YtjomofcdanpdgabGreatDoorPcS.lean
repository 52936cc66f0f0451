/- A part of the proof of the statement that this claim hands in: what single functions come to. There are no conditions. -/
import Derived.Test.YtjomofcdanpdgabGreatDoorPcR
set_option linter.unusedSectionVars false
set_option linter.unusedVariables false
set_option linter.unusedSimpArgs false
namespace Go.Proofs.YtjomofcdanpdgabGreatDoor.paramCarried
open Go.Ev hiding Comes

/-! What xtext says. -/
def capAt (s : List UInt8) (k : Nat) : Bool := match s[k]? with
  | none => false
  | some b => hexU.contains b
def hx (s : List UInt8) (k : Nat) : Nat := hexU.idxOf (s.getD k 0)
def pre (o : List UInt8) : Except Nat (List UInt8) → Except Nat (List UInt8)
  | .ok x => .ok (o ++ x)
  | .error e => .error e
def unx (s : List UInt8) : Nat → Nat → Except Nat (List UInt8)
  | 0, _ => .ok []
  | f + 1, i => match s[i]? with
    | none => .ok []
    | some b => if seen b [43, 61] = true then pre [b] (unx s f (i + 1)) else if b ≠ 43 then .error i
      else if capAt s (i + 1) = false then .error (i + 1) else if capAt s (i + 2) = false then .error (i + 2)
      else pre [UInt8.ofNat (16 * hx s (i + 1) + hx s (i + 2))] (unx s f (i + 3))
def resU : Except Nat (List UInt8) → EV
  | .ok o => .tuple [.str o, .agg [.int .i64 0, .int .i64 0]]
  | .error e => .tuple [.str [], .agg [.int .i64 104, .int .i64 (e : Nat)]]

theorem pre_pre (o p : List UInt8) (x : Except Nat (List UInt8)) : pre o (pre p x) = pre (o ++ p) x := by
  cases x <;> simp [pre]
theorem pre_nil (x : Except Nat (List UInt8)) : pre [] x = x := by
  cases x <;> simp [pre]
theorem unx_end {s : List UInt8} {f i : Nat} (h : s.length ≤ i) : unx s f i = .ok [] := by
  cases f with
  | zero => rfl
  | succ f =>
    unfold unx
    rw [List.getElem?_eq_none h]
theorem unx_see {s : List UInt8} {f i : Nat} {b : UInt8} (h : s[i]? = some b) (hb : seen b [43, 61] = true) : unx s (f + 1) i = pre [b] (unx s f (i + 1)) := by
  conv => lhs; unfold unx
  rw [h]
  simp only [hb, if_true]
theorem unx_not {s : List UInt8} {f i : Nat} {b : UInt8} (h : s[i]? = some b) (hb : seen b [43, 61] = false) (h43 : (b != 43) = true) : unx s (f + 1) i = .error i := by
  have : b ≠ 43 := by simpa using h43
  conv => lhs; unfold unx
  rw [h]
  simp only [hb, Bool.false_eq_true, if_false, ne_eq, this, not_false_eq_true, if_true]
theorem seen43 : seen 43 [43, 61] = false := by decide
theorem unx_bad {s : List UInt8} {f i k : Nat} (h : s[i]? = some 43) (hk : 1 ≤ k ∧ k ≤ 2) (hb : ∀ j, 1 ≤ j → j < k → capAt s (i + j) = true) (hno : capAt s (i + k) = false) : unx s (f + 1) i = .error (i + k) := by
  conv => lhs; unfold unx
  rw [h]
  simp only [seen43, Bool.false_eq_true, if_false, ne_eq, not_true_eq_false]
  by_cases h1 : k = 1
  · subst h1
    rw [if_pos hno]
  · have h2 : k = 2 := by omega
    subst h2
    have := hb 1 (by omega) (by omega)
    rw [if_neg (by rw [this]; simp), if_pos hno]
theorem unx_good {s : List UInt8} {f i : Nat} (h : s[i]? = some 43) (h1 : capAt s (i + 1) = true) (h2 : capAt s (i + 2) = true) : unx s (f + 1) i = pre [UInt8.ofNat (16 * hx s (i + 1) + hx s (i + 2))] (unx s f (i + 3)) := by
  conv => lhs; unfold unx
  rw [h]
  simp only [seen43, Bool.false_eq_true, if_false, ne_eq, not_true_eq_false, h1, h2]
  simp
theorem cap_dig {s : List UInt8} {k : Nat} (h : capAt s k = true) : ∃ hk : k < s.length, ∃ x : Fin 16, s[k] = dig x.val ∧ hx s k = x.val := by
  unfold capAt at h
  split at h
  · cases h
  · rename_i b hb
    obtain ⟨hk, e⟩ := List.getElem?_eq_some_iff.1 hb
    have hc := nat256 (P := fun n => hexU.contains (UInt8.ofNat n) = true → hexU.idxOf (UInt8.ofNat n) < 16 ∧ dig (hexU.idxOf (UInt8.ofNat n)) = UInt8.ofNat n) (show ∀ n : Fin 256, hexU.contains (UInt8.ofNat n.val) = true → hexU.idxOf (UInt8.ofNat n.val) < 16 ∧ dig (hexU.idxOf (UInt8.ofNat n.val)) = UInt8.ofNat n.val by decide +kernel) b
    simp only [UInt8.ofNat_toNat] at hc
    obtain ⟨h1, h2⟩ := hc h
    refine ⟨hk, ⟨hexU.idxOf b, h1⟩, ?_, ?_⟩
    · rw [e, h2]
    · simp only [hx, List.getD, hb, Option.getD_some]
theorem capAt_get {s : List UInt8} {k : Nat} (h : k < s.length) : capAt s k = hexU.contains s[k] := by
  unfold capAt
  rw [List.getElem?_eq_getElem h]
theorem capAt_none {s : List UInt8} {k : Nat} (h : s.length ≤ k) : capAt s k = false := by
  unfold capAt
  rw [List.getElem?_eq_none h]
theorem digs16 (x y : Fin 16) : IntKind.u8.wrap (IntKind.i64.wrap (IntKind.i64.wrap (16 * ((x.val : Nat) : Int)) + ((y.val : Nat) : Int))) = ((UInt8.ofNat (16 * x.val + y.val)).toNat : Int) := by revert x y; decide +kernel
end Go.Proofs.YtjomofcdanpdgabGreatDoor.paramCarried
