/- A part of the proof of the statement that this claim hands in: what single functions come to. There are no conditions. -/
import Derived.Test.YtjomofcdanpdgabGreatDoorPcV
set_option linter.unusedSectionVars false
set_option linter.unusedVariables false
set_option linter.unusedSimpArgs false
namespace Go.Proofs.YtjomofcdanpdgabGreatDoor.paramCarried
open Go.Ev hiding Comes

/-! The plain law of xtext: there and back, lengths, places. -/
def later (k : Nat) : Except Nat (List UInt8) → Except Nat (List UInt8)
  | .ok x => .ok x
  | .error e => .error (k + e)
theorem later_pre (k : Nat) (o : List UInt8) (x : Except Nat (List UInt8)) : later k (pre o x) = pre o (later k x) := by
  cases x <;> rfl
theorem get_shift (p t : List UInt8) (i : Nat) : (p ++ t)[p.length + i]? = t[i]? := by
  rw [List.getElem?_append_right (by omega), Nat.add_sub_cancel_left]
theorem capAt_shift (p t : List UInt8) (i : Nat) : capAt (p ++ t) (p.length + i) = capAt t i := by
  unfold capAt
  rw [get_shift]
theorem hx_shift (p t : List UInt8) (i : Nat) : hx (p ++ t) (p.length + i) = hx t i := by
  simp only [hx, List.getD, get_shift]
theorem unx_shift (p t : List UInt8) : ∀ (f i : Nat), unx (p ++ t) f (p.length + i) = later p.length (unx t f i)
  | 0, i => rfl
  | f + 1, i => by
    unfold unx
    rw [get_shift]
    cases ht : t[i]? with
    | none => rfl
    | some b =>
      simp only
      have e1 := capAt_shift p t (i + 1)
      have e2 := capAt_shift p t (i + 2)
      have e3 := hx_shift p t (i + 1)
      have e4 := hx_shift p t (i + 2)
      simp only [← Nat.add_assoc] at e1 e2 e3 e4
      have r1 := unx_shift p t f (i + 1)
      have r3 := unx_shift p t f (i + 3)
      simp only [← Nat.add_assoc] at r1 r3
      rw [e1, e2, e3, e4, r1, r3]
      split
      · rw [later_pre]
      · split
        · rfl
        · split
          · simp only [later, Nat.add_assoc]
          · split
            · simp only [later, Nat.add_assoc]
            · rw [later_pre]
theorem unx_fuel (s : List UInt8) : ∀ (f g i : Nat), s.length < f + i → s.length < g + i → unx s f i = unx s g i
  | 0, g, i, hf, hg => by rw [unx_end (by omega), unx_end (by omega)]
  | f + 1, 0, i, hf, hg => by rw [unx_end (by omega), unx_end (by omega)]
  | f + 1, g + 1, i, hf, hg => by
    unfold unx
    rw [unx_fuel s f g (i + 1) (by omega) (by omega), unx_fuel s f g (i + 3) (by omega) (by omega)]

theorem dig_back (k : Fin 16) : hexU.contains (dig k.val) = true ∧ hexU.idxOf (dig k.val) = k.val ∧ seen (dig k.val) [43, 61] = true := by revert k; decide +kernel
theorem hex_back (b : UInt8) : UInt8.ofNat (16 * (b.toNat / 16) + b.toNat % 16) = b := by
  rw [Nat.div_add_mod]
  simp
theorem xt_ok (b : UInt8) (X u : List UInt8) (f : Nat) (h : unx X f 0 = .ok u) : unx (xt b ++ X) (f + 1) 0 = .ok (b :: u) := by
  unfold xt
  have hb := b.toNat_lt
  split
  · rename_i hs
    rw [unx_see (b := b) rfl hs]
    have := unx_shift [b] X f 0
    simp only [List.length_cons, List.length_nil, Nat.zero_add, Nat.add_zero] at this
    rw [Nat.zero_add, this, h]
    rfl
  · obtain ⟨c1, c2, _⟩ := dig_back ⟨b.toNat / 16, by omega⟩
    obtain ⟨d1, d2, _⟩ := dig_back ⟨b.toNat % 16, by omega⟩
    simp only at c1 c2 d1 d2
    have e : (43 :: hexB b ++ X) = [43, dig (b.toNat / 16), dig (b.toNat % 16)] ++ X := rfl
    rw [e, unx_good rfl (by unfold capAt; exact c1) (by unfold capAt; exact d1)]
    have := unx_shift [43, dig (b.toNat / 16), dig (b.toNat % 16)] X f 0
    simp only [List.length_cons, List.length_nil, Nat.zero_add, Nat.add_zero] at this
    rw [Nat.zero_add, this, h]
    have h1 : hx ([43, dig (b.toNat / 16), dig (b.toNat % 16)] ++ X) (0 + 1) = b.toNat / 16 := c2
    have h2 : hx ([43, dig (b.toNat / 16), dig (b.toNat % 16)] ++ X) (0 + 2) = b.toNat % 16 := d2
    rw [h1, h2, hex_back]
    rfl
/-- There and back. -/
theorem unx_xt : ∀ (s : List UInt8) (f : Nat), (xtS s).length < f → unx (xtS s) f 0 = .ok s
  | [], f, h => unx_end (by simp [xtS])
  | b :: s, 0, h => by omega
  | b :: s, f + 1, h => by
    have e : xtS (b :: s) = xt b ++ xtS s := by simp [xtS]
    have hl : 1 ≤ (xt b).length := by unfold xt; split <;> simp
    rw [e, List.length_append] at h
    rw [e]
    exact xt_ok b (xtS s) s f (unx_xt s f (by omega))
theorem xtS_low : ∀ (s : List UInt8), s.length ≤ (xtS s).length
  | [] => by simp
  | b :: s => by
    have e : xtS (b :: s) = xt b ++ xtS s := by simp [xtS]
    have hl : 1 ≤ (xt b).length := by unfold xt; split <;> simp
    rw [e, List.length_append, List.length_cons]
    have := xtS_low s
    omega
theorem xtS_seen (s : List UInt8) : ∀ x ∈ xtS s, x = 43 ∨ seen x [43, 61] = true := by
  intro x hx
  simp only [xtS, List.mem_flatMap] at hx
  obtain ⟨b, _, hx⟩ := hx
  have hb := b.toNat_lt
  unfold xt at hx
  split at hx
  · rename_i hs
    simp only [List.mem_singleton] at hx
    rw [hx]
    exact .inr hs
  · simp only [hexB, List.mem_cons, List.mem_nil_iff, or_false] at hx
    rcases hx with rfl | rfl | rfl
    · exact .inl rfl
    · exact .inr (dig_back ⟨b.toNat / 16, by omega⟩).2.2
    · exact .inr (dig_back ⟨b.toNat % 16, by omega⟩).2.2
/-- What is read can be written no longer than it was; what isn't has its place. -/
def Within (s : List UInt8) (i : Nat) : Except Nat (List UInt8) → Prop
  | .ok u => (xtS u).length + i ≤ s.length
  | .error e => i ≤ e ∧ e ≤ s.length
theorem within_pre {s : List UInt8} {i k : Nat} {v : UInt8} {x : Except Nat (List UInt8)} (h : Within s (i + k) x) (hv : (xt v).length ≤ k) : Within s i (pre [v] x) := by
  cases x with
  | ok u =>
    have e : xtS ([v] ++ u) = xt v ++ xtS u := by simp [xtS]
    simp only [Within, pre, e, List.length_append] at h ⊢
    omega
  | error e =>
    simp only [Within, pre] at h ⊢
    omega
theorem unx_bounds (s : List UInt8) : ∀ (f i : Nat), i ≤ s.length → Within s i (unx s f i)
  | 0, i, hi => by simpa [unx, xtS, Within] using hi
  | f + 1, i, hi => by
    unfold unx
    cases hs : s[i]? with
    | none => simpa [xtS, Within] using hi
    | some b =>
      have hil : i < s.length := (List.getElem?_eq_some_iff.1 hs).1
      dsimp only
      by_cases hb : seen b [43, 61] = true
      · rw [if_pos hb]
        refine within_pre (unx_bounds s f (i + 1) hil) ?_
        unfold xt
        rw [if_pos hb]
        simp
      · rw [if_neg hb]
        by_cases h43 : b ≠ 43
        · rw [if_pos h43]
          exact ⟨Nat.le_refl _, hi⟩
        · rw [if_neg h43]
          by_cases h1 : capAt s (i + 1) = false
          · rw [if_pos h1]
            exact ⟨by omega, hil⟩
          · rw [if_neg h1]
            have h1 : capAt s (i + 1) = true := by simpa using h1
            obtain ⟨k1, _⟩ := cap_dig h1
            by_cases h2 : capAt s (i + 2) = false
            · rw [if_pos h2]
              exact ⟨by omega, by omega⟩
            · rw [if_neg h2]
              have h2 : capAt s (i + 2) = true := by simpa using h2
              obtain ⟨k2, _⟩ := cap_dig h2
              exact within_pre (unx_bounds s f (i + 3) (by omega)) (xt_len _)
/-- A text with 'a+00' ahead of it. -/
theorem unx_ahead (s : List UInt8) (e : Nat) (h : unx s (s.length + 1) 0 = .error e) : unx ([97, 43, 48, 48] ++ s) (([97, 43, 48, 48] ++ s).length + 1) 0 = .error (e + 4) := by
  have hl : ([97, 43, 48, 48] ++ s).length = s.length + 4 := by simp
  rw [hl, unx_see (b := 97) rfl (by decide), unx_good (i := 0 + 1) rfl (by rfl) (by rfl)]
  have := unx_shift [97, 43, 48, 48] s (s.length + 3) 0
  simp only [List.length_cons, List.length_nil, Nat.zero_add, Nat.add_zero] at this
  rw [show 0 + 1 + 3 = 1 + 3 from rfl, this, unx_fuel s (s.length + 3) (s.length + 1) 0 (by omega) (by omega), h]
  simp only [later, pre, Nat.add_comm 4 e]
end Go.Proofs.YtjomofcdanpdgabGreatDoor.paramCarried
