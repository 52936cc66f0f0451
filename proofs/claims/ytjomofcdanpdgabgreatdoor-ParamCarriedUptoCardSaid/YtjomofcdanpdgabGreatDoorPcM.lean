/- A part of the proof of the statement that this claim hands in: what single functions come to. There are no conditions. -/
import Derived.Test.YtjomofcdanpdgabGreatDoorPcL
set_option linter.unusedSectionVars false
set_option linter.unusedVariables false
set_option linter.unusedSimpArgs false
namespace Go.Proofs.YtjomofcdanpdgabGreatDoor.paramCarried
open Go.Ev hiding Comes

theorem grown_same {m N : Mem} (hl : m.bl.length ≤ N.bl.length) (h : ∀ j, j < m.bl.length → N.bl[j]? = m.bl[j]?) : Grown m N := by
  refine ⟨N.bl.drop m.bl.length, ?_⟩
  have : m.bl = N.bl.take m.bl.length := by
    apply List.ext_getElem?
    intro q
    rw [List.getElem?_take]
    split
    · rename_i hq
      rw [h q hq]
    · rename_i hq
      rw [List.getElem?_eq_none (by omega)]
  calc N.bl = N.bl.take m.bl.length ++ N.bl.drop m.bl.length := (List.take_append_drop ..).symm
    _ = m.bl ++ N.bl.drop m.bl.length := by rw [← this]
theorem grown_at {m N : Mem} (h : Grown m N) {j : Nat} (hj : j < m.bl.length) : N.bl[j]? = m.bl[j]? := by
  obtain ⟨l, e⟩ := h
  rw [e, List.getElem?_append_left hj]

/-- What a byte is in xtext. -/
def xt (b : UInt8) : List UInt8 := if seen b [43, 61] = true then [b] else 43 :: hexB b
def xtS (s : List UInt8) : List UInt8 := s.flatMap xt
theorem xt_len (b : UInt8) : (xt b).length ≤ 3 := by
  unfold xt
  split <;> simp [hexB]
theorem xtS_len : ∀ (s : List UInt8), (xtS s).length ≤ 3 * s.length
  | [] => by simp [xtS]
  | b :: s => by
    have h1 := xtS_len s
    have h2 := xt_len b
    simp only [xtS, List.flatMap_cons, List.length_append, List.length_cons] at h1 ⊢
    omega
theorem xtS_take {s : List UInt8} {i : Nat} (hi : i < s.length) : xtS (s.take (i + 1)) = xtS (s.take i) ++ xt s[i] := by
  rw [List.take_succ_eq_append_getElem hi]
  simp only [xtS, List.flatMap_append, List.flatMap_cons, List.flatMap_nil, List.append_nil]
end Go.Proofs.YtjomofcdanpdgabGreatDoor.paramCarried
