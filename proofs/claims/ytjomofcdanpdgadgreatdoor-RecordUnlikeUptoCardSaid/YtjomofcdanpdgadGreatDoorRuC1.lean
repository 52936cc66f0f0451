/- A part of the proof of the statement that this claim hands in: what single functions come to. There are no conditions. -/
import Derived.Test.YtjomofcdanpdgadGreatDoorRuFuns
import Derived.Test.YtjomofcdanpdgadGreatDoorRuEv20
set_option linter.unusedSimpArgs false
set_option linter.unusedSectionVars false
set_option linter.unusedVariables false
namespace Go.Proofs.YtjomofcdanpdgadGreatDoor.recordUnlike
open Go.Ev hiding Comes
variable {G : Globs}

/-- A []byte whose bytes are these. -/
def BytesAt (G : Globs) (m : Mem) (v : EV) (s : List UInt8) : Prop :=
  (∃ e, v = .slice none 0 0 e ∧ s = []) ∨ ∃ a cap e, v = .slice (some a) s.length cap e ∧ m.getN G a s.length = some (bytesE s)

theorem strE_bytes : ∀ s : List UInt8, strE (bytesE s) = some s
  | [] => rfl
  | b :: s => by
    have := strE_bytes s
    unfold bytesE at this ⊢
    simp only [List.map_cons, strE, byteE, byteOfE, this]
    simp

theorem toStr_bytes {m : Mem} {v : EV} {s : List UInt8} (h : BytesAt G m v s) {A : Fr} {x : Opd} (hx : opd A x = v) : evVal G (.toStr x) A m = some (.str s, m) := by
  simp only [evVal, hx]
  rcases h with ⟨e, rfl, rfl⟩ | ⟨a, cap, e, rfl, hg⟩
  · rfl
  · simp only [hg, Option.bind_some, strE_bytes, Option.map_some]

theorem leave_same (m : Mem) (v : EV) (h : noref m.bl.length v = true) : leaveE m v ⟨m.bl, m.bl.length⟩ = m := by
  simp [leaveE, h]

theorem c10 (m : Mem) (x y : EV) (s t : List UInt8) (hx : BytesAt G m x s) (hy : BytesAt G m y t) : Go.Ev.Comes T G 10 [x, y] m none ⟨.val (.bool (s == t)), m, none⟩ := by
  have hx' : BytesAt G ⟨m.bl, m.bl.length⟩ x s := hx
  have hy' : BytesAt G ⟨m.bl, m.bl.length⟩ y t := hy
  refine comes_of T10 rfl ?_
  refine wpC_seq (wpC_reg ?_)
  refine wpOps_step rfl ?_
  simp only [stepE, evVal, opd]
  refine wpOps_nil ?_
  refine wpC_seq (wpC_reg ?_)
  refine wpOps_step rfl ?_
  simp only [stepE, evVal, opd, upd, argsE, List.getD, List.getElem?_cons_zero, Option.getD_some, Nat.reduceEqDiff, ↓reduceIte]
  refine wpOps_step rfl ?_
  simp only [stepE]
  rw [toStr_bytes (A := _) (x := .tmp 5) hx' (by simp [opd, upd])]
  refine wpOps_step rfl ?_
  simp only [stepE, evVal, opd, upd, argsE, List.getD, List.getElem?_cons_zero, List.getElem?_cons_succ, Option.getD_some, Nat.reduceEqDiff, ↓reduceIte]
  refine wpOps_step rfl ?_
  simp only [stepE]
  rw [toStr_bytes (A := _) (x := .tmp 7) hy' (by simp [opd, upd])]
  refine wpOps_step rfl ?_
  simp only [stepE, evVal, opd, upd, Nat.reduceEqDiff, ↓reduceIte, binE, binStr, Option.map_some]
  refine wpOps_step rfl ?_
  simp only [stepE, evVal, opd, upd, Nat.reduceEqDiff, ↓reduceIte]
  refine wpOps_nil (wpC_ret ⟨rfl, [.bool (s == t)], ?_, ?_⟩)
  · simp only [F10, resultsE, resE, upd, ↓reduceIte]
  · simp only [oneE, leave_same m (.bool (s == t)) rfl]
end Go.Proofs.YtjomofcdanpdgadGreatDoor.recordUnlike
