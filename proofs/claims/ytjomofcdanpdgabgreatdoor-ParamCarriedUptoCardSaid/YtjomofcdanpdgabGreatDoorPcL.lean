/- A part of the proof of the statement that this claim hands in: what single functions come to. There are no conditions. -/
import Derived.Test.YtjomofcdanpdgabGreatDoorPcK
set_option linter.unusedSectionVars false
set_option linter.unusedVariables false
set_option linter.unusedSimpArgs false
namespace Go.Proofs.YtjomofcdanpdgabGreatDoor.paramCarried
open Go.Ev hiding Comes

/-- A slice of bytes that grows by append from nil on. -/
def Out (m : Mem) (v : EV) (k : Option Nat) (s : List UInt8) (n : Nat) : Prop :=
  match k with
  | none => v = .slice none 0 0 0 ∧ s = []
  | some k => ∃ g, g < n ∧ v = .slice (some ⟨.mem k (tagB + g), 0⟩) s.length s.length 1 ∧ m.bl[k]? = some (.cells (bytesE s) (tagB + g) true)

theorem Out.keep {m m' : Mem} {v : EV} {k : Option Nat} {s : List UInt8} {n : Nat} (h : Out m v k s n) (hk : ∀ j, k = some j → m'.bl[j]? = m.bl[j]?) : Out m' v k s n := by
  cases k with
  | none => exact h
  | some k =>
    obtain ⟨g, h1, h2, h3⟩ := h
    exact ⟨g, h1, h2, by rw [hk k rfl]; exact h3⟩
theorem Out.lt {m : Mem} {v : EV} {j : Nat} {s : List UInt8} {n : Nat} (h : Out m v (some j) s n) : j < m.bl.length := by
  obtain ⟨g, _, _, h3⟩ := h
  exact (List.getElem?_eq_some_iff.1 h3).1
theorem Out.more {m : Mem} {v : EV} {k : Option Nat} {s : List UInt8} {n n' : Nat} (h : Out m v k s n) (hn : n ≤ n') : Out m v k s n' := by
  cases k with
  | none => exact h
  | some k =>
    obtain ⟨g, h1, h2, h3⟩ := h
    exact ⟨g, by omega, h2, h3⟩
theorem Out.slice {m : Mem} {v : EV} {k : Option Nat} {s : List UInt8} {n : Nat} (h : Out m v k s n) : ∃ a cap e, v = .slice a s.length cap e := by
  cases k with
  | none =>
    obtain ⟨rfl, rfl⟩ := h
    exact ⟨none, 0, 0, rfl⟩
  | some k =>
    obtain ⟨g, _, rfl, _⟩ := h
    exact ⟨_, _, _, rfl⟩

theorem out_append (m : Mem) (v : EV) (k : Option Nat) (s t : List UInt8) (n : Nat) (h : Out m v k s n) (ht : t ≠ []) (hn : n < 1099511627000) (hs : s.length + t.length ≤ 140737488355328) :
    ∃ v' m' k', appendE G m 1 1 6597069766657 v (bytesE t) t.length = some (v', m') ∧ Out m' v' (some k') (s ++ t) (n + 1) ∧ (k = some k' ∨ k = none ∧ k' = m.bl.length) ∧ (∀ j, j < m.bl.length → some j ≠ k → m'.bl[j]? = m.bl[j]?) ∧ m.bl.length ≤ m'.bl.length ∧ min m.low k' ≤ m'.low := by
  have htl : t.length ≠ 0 := fun e => ht (List.length_eq_zero_iff.1 e)
  cases k with
  | none =>
    obtain ⟨rfl, rfl⟩ := h
    refine ⟨.slice (some ⟨.mem m.bl.length tagB, 0⟩) t.length t.length 1, m.push (.cells (bytesE t) tagB true), m.bl.length, ?_, ⟨0, by omega, by simp, ?_⟩, .inr ⟨rfl, rfl⟩, ?_, ?_, ?_⟩
    · simp only [appendE, if_neg htl]
      rw [if_pos (by simp at hs; omega)]
      rfl
    · simp [Mem.push]
    · intro j hj _
      simp only [Mem.push, List.getElem?_append_left hj]
    · simp [Mem.push]
    · simp only [Mem.push]; omega
  | some k =>
    obtain ⟨g, hg, rfl, hk⟩ := h
    have hklt : k < m.bl.length := (List.getElem?_eq_some_iff.1 hk).1
    obtain ⟨t1, t2, t3⟩ := tag_next (n := g) (by omega)
    refine ⟨.slice (some ⟨.mem k (tagB + g + 1), 0⟩) (s.length + t.length) (s.length + t.length) 1, ⟨m.bl.set k (.cells (bytesE s ++ bytesE t) (tagB + g + 1) true), min m.low k⟩, k, ?_, ⟨g + 1, by omega, by simp [Nat.add_assoc], ?_⟩, .inl rfl, ?_, ?_, ?_⟩
    · simp only [appendE, ne_eq, not_true_eq_false, if_false]
      rw [if_neg (by omega), if_pos (by omega)]
      simp only [hk, Nat.mul_one, Nat.zero_add, bytesE_len]
      rw [if_pos ⟨trivial, Nat.le_refl _, t1, .inr ⟨t2, t3, trivial⟩⟩]
      simp only [List.drop_zero, Option.some.injEq, Prod.mk.injEq]
      refine ⟨trivial, ?_⟩
      rw [← bytesE_len (s := s), List.take_length]
    · simp only [bytesE_append, List.getElem?_set, if_true, hklt]
      rfl
    · intro j hj hjk
      simp only
      rw [List.getElem?_set_ne (show k ≠ j from fun e => hjk (by rw [e]))]
    · simp
    · simp only; omega

theorem wpOps_tostr3 {m : Mem} {v : EV} {k : Option Nat} {n : Nat} {s : List UInt8} (ho : Out m v k s n) {x : Opd} {dst : Option Nat} {os : List EOper} {Q : Ex → St → Prop} {A : Fr} {d : List (FuncId × List EV)} {p : Option (Option EV)}
    (hx : opd A x = v) (h : Go.Ev.wpOps T G os Q ⟨setO A dst (.str s), m, d, p⟩) : Go.Ev.wpOps T G (⟨dst, .toStr x, none⟩ :: os) Q ⟨A, m, d, p⟩ := by
  cases k with
  | none =>
    obtain ⟨rfl, rfl⟩ := ho
    refine wpOps_step rfl ?_
    simp only [stepE, evVal, hx]
    cases dst <;> exact h
  | some k =>
    obtain ⟨g, _, rfl, hk⟩ := ho
    have := getN_cells (G := G) hk
    rw [bytesE_len] at this
    exact wpOps_tostr2 hx this h
end Go.Proofs.YtjomofcdanpdgabGreatDoor.paramCarried
