/- A part of the proof of the statement that this claim hands in: what single functions come to. There are no conditions. -/
import Derived.Test.YtmjoaiccbghijaaGreatDoorAgL2
import Derived.KernelRfl
import Derived.Test.YtmjoaiccbghijaaGreatDoorXEv20
import Derived.Test.YtmjoaiccbghijaaGreatDoorXEv25
import Derived.Test.YtmjoaiccbghijaaGreatDoorXEv30
set_option linter.unusedVariables false
set_option linter.unusedSimpArgs false
set_option linter.unusedSectionVars false
namespace Go.Proofs.YtmjoaiccbghijaaGreatDoor.paramAgain
open Go.Ev hiding Comes

theorem tw_app {p : UInt8 → Bool} {a b : List UInt8} (ha : ∀ x ∈ a, p x = true) (hb : b = [] ∨ ∃ c r, b = c :: r ∧ p c = false) : ((a ++ b).takeWhile p).length = a.length := by
  induction a with
  | nil =>
    rcases hb with rfl | ⟨c, r, rfl, hc⟩
    · rfl
    · simp [hc]
  | cons x a ih =>
    rw [List.cons_append, List.takeWhile_cons_of_pos (ha x (List.mem_cons_self ..)), List.length_cons, ih (fun y hy => ha y (List.mem_cons_of_mem _ hy)), List.length_cons]
theorem tw_all {p : UInt8 → Bool} {a : List UInt8} (h : (a.takeWhile p).length = a.length) : ∀ x ∈ a, p x = true := by
  have e : a.takeWhile p = a := (List.takeWhile_prefix (p := p) (l := a)).eq_of_length h
  intro x hx
  rw [← e] at hx
  exact List.all_eq_true.1 (List.all_takeWhile (p := p) (l := a)) x hx
theorem kwd_name {s : List UInt8} (h : kwd s = s.length) (h0 : s ≠ []) : (∃ b r, s = b :: r ∧ isF 3 b.toNat = true) ∧ ∀ x ∈ s, isF 10 x.toNat = true := by
  cases s with
  | nil => exact absurd rfl h0
  | cons b r =>
    simp only [kwd] at h
    by_cases hb : isF 3 b.toNat = true
    · rw [if_pos hb] at h
      exact ⟨⟨b, r, rfl, hb⟩, tw_all h⟩
    · rw [if_neg hb] at h
      simp at h
theorem not10 : isF 10 (61 : UInt8).toNat = false ∧ isF 10 (32 : UInt8).toNat = false := by decide +kernel
theorem kwd_app {s r : List UInt8} (h : kwd s = s.length) (h0 : s ≠ []) (hr : r = [] ∨ ∃ c t, r = c :: t ∧ (c = 61 ∨ c = 32)) : kwd (s ++ r) = s.length := by
  obtain ⟨⟨b, q, rfl, hb⟩, hall⟩ := kwd_name h h0
  rw [List.cons_append, kwd, if_pos hb, ← List.cons_append]
  refine tw_app hall ?_
  rcases hr with rfl | ⟨c, t, rfl, hc⟩
  · exact .inl rfl
  · refine .inr ⟨c, t, rfl, ?_⟩
    rcases hc with rfl | rfl
    · exact not10.1
    · exact not10.2
theorem parBad_0 {p : Par} (h : parBad p = 0) : kwd p.name = p.name.length ∧ p.name ≠ [] ∧ upS p.name = p.name ∧ (p.has = true → badV true p.value < 0) ∧ (p.has = false → p.value = []) := by
  unfold parBad at h
  split at h
  · cases h
  · rename_i h1
    simp only [not_or, Decidable.not_not, ne_eq] at h1
    obtain ⟨a, b, c⟩ := h1
    split at h
    · cases h
    · rename_i h2
      refine ⟨b, fun e => a (by rw [b, e]; rfl), c, fun hh => ?_, fun hh => ?_⟩
      · rw [hh] at h2
        simp at h2
        exact h2
      · rw [hh] at h2
        simpa using h2
theorem badV_ok {w : Bool} {s : List UInt8} (h : badV w s < 0) : s ≠ [] ∧ (∀ x ∈ s, okB w x = true) ∧ ¬ good s.length s < s.length := by
  unfold badV at h
  split at h
  · omega
  · rename_i h0
    split at h
    · omega
    · rename_i h1
      split at h
      · omega
      · rename_i h2
        have := tw_le (p := okB w) s
        exact ⟨h0, tw_all (by omega), h2⟩
theorem okB_32 : ∀ (w : Bool) (b : UInt8), okB w b = true → (b != 32) = true := by decide +kernel
theorem okB_true : ∀ (w : Bool) (b : UInt8), okB w b = true → okB true b = true := by decide +kernel
theorem okB_13 : ∀ b : UInt8, okB true b = true → (okB false b = isF 13 b.toNat) := by decide +kernel
theorem badV_true {w : Bool} {s : List UInt8} (h : badV w s < 0) : badV true s < 0 := by
  obtain ⟨h0, h1, h2⟩ := badV_ok h
  rw [badV_on h0 fun x hx => okB_true w x (h1 x hx), if_neg h2]
  omega
theorem badV_13 {s : List UInt8} (h : badV true s < 0) : badV false s < 0 ↔ ∀ x ∈ s, isF 13 x.toNat = true := by
  obtain ⟨h0, h1, h2⟩ := badV_ok h
  constructor
  · intro hf x hx
    obtain ⟨_, h3, _⟩ := badV_ok hf
    rw [← okB_13 x (h1 x hx)]
    exact h3 x hx
  · intro hall
    rw [badV_on h0 fun x hx => by rw [okB_13 x (h1 x hx)]; exact hall x hx, if_neg h2]
    omega
theorem drop_more {s : List UInt8} {i : Nat} {a b : List UInt8} (h : s.drop i = a ++ b) : s.drop (i + a.length) = b := by
  rw [← List.drop_drop, h, List.drop_left]
theorem get_drop {s : List UInt8} {i : Nat} {b : UInt8} {r : List UInt8} (h : s.drop i = b :: r) : ∃ hi : i < s.length, s[i] = b := by
  have hi : i < s.length := by
    by_cases hi : i < s.length
    · exact hi
    · rw [List.drop_eq_nil_of_le (by omega)] at h
      cases h
  refine ⟨hi, ?_⟩
  rw [List.drop_eq_getElem_cons hi] at h
  exact (List.cons.inj h).1
theorem get_none {s : List UInt8} {i : Nat} (h : s.drop i = []) : s[i]? = none := by
  have := List.drop_eq_nil_iff.1 h
  exact List.getElem?_eq_none this
/-- One parameter that is written is read. -/
theorem parse_step {w : Bool} {s R : List UInt8} {f i : Nat} {acc : List Par} {p : Par} (hD : s.drop i = parW p ++ R) (hR : R = [] ∨ ∃ r, R = 32 :: r) (hp : parBad p = 0) (h16 : acc.length < 16) :
    parseS w s (f + 1) i acc = if p.has = true ∧ 0 ≤ badV w p.value then ([], 101, ((i + 1 + p.name.length + 1 : Nat) : Int) + badV w p.value) else parseS w s f (i + (parW p).length) (acc ++ [p]) := by
  obtain ⟨k1, k2, k3, k4, k5⟩ := parBad_0 hp
  have hD1 : s.drop i = 32 :: (p.name ++ ((if p.has = true then 61 :: p.value else []) ++ R)) := by rw [hD]; simp [parW]
  obtain ⟨hi, h32⟩ := get_drop hD1
  have hd1 : s.drop (i + 1) = p.name ++ ((if p.has = true then 61 :: p.value else []) ++ R) := drop_more (a := [32]) (by rw [hD1]; rfl)
  have hd2 : s.drop (i + 1 + p.name.length) = (if p.has = true then 61 :: p.value else []) ++ R := drop_more hd1
  have hk : kwd (s.drop (i + 1)) = p.name.length := by
    rw [hd1]
    refine kwd_app k1 k2 ?_
    cases hh : p.has with
    | true => exact .inr ⟨61, p.value ++ R, by simp, .inl rfl⟩
    | false =>
      simp only [Bool.false_eq_true, if_false, List.nil_append]
      rcases hR with h | ⟨r, h⟩
      · exact .inl h
      · exact .inr ⟨32, r, h, .inr rfl⟩
  have hn0 : p.name.length ≠ 0 := fun e => k2 (List.length_eq_zero_iff.1 e)
  have hname : upS ((s.drop (i + 1)).take p.name.length) = p.name := by rw [hd1, List.take_left, k3]
  rw [parseS_at hi h32 (by omega) hk hn0, hname]
  cases hh : p.has with
  | true =>
    rw [hh] at hd2
    simp only [if_true] at hd2
    obtain ⟨hi2, h61⟩ := get_drop hd2
    rw [if_pos (by rw [List.getElem?_eq_getElem hi2, h61])]
    have hd3 : s.drop (i + 1 + p.name.length + 1) = p.value ++ R := drop_more (a := [61]) (by rw [hd2]; rfl)
    have hv := k4 hh
    obtain ⟨v0, v1, v2⟩ := badV_ok hv
    have htil : til (s.drop (i + 1 + p.name.length + 1)) = p.value.length := by
      rw [hd3]
      refine tw_app (fun x hx => okB_32 true x (v1 x hx)) ?_
      rcases hR with h | ⟨r, h⟩
      · exact .inl h
      · exact .inr ⟨32, r, h, rfl⟩
    rw [htil, hd3, List.take_left]
    simp only [true_and]
    have e1 : (⟨p.name, p.value, true⟩ : Par) = p := by cases p; simp_all
    have e2 : i + 1 + p.name.length + 1 + p.value.length = i + (parW p).length := by simp [parW, hh]; omega
    rw [e1, e2]
  | false =>
    rw [hh] at hd2
    simp only [Bool.false_eq_true, if_false, List.nil_append] at hd2
    have hvn := k5 hh
    have hnot : s[i + 1 + p.name.length]? ≠ some 61 := by
      rcases hR with h | ⟨r, h⟩
      · rw [h] at hd2
        rw [get_none hd2]
        simp
      · rw [h] at hd2
        obtain ⟨hi2, h3⟩ := get_drop hd2
        rw [List.getElem?_eq_getElem hi2, h3]
        simp
    rw [if_neg hnot, if_neg, if_neg (by simp)]
    · have e1 : (⟨p.name, [], false⟩ : Par) = p := by cases p; simp_all
      have e2 : i + 1 + p.name.length = i + (parW p).length := by simp [parW, hh]; omega
      rw [e1, e2]
    · rintro ⟨q1, q2⟩
      rcases hR with h | ⟨r, h⟩
      · rw [h] at hd2
        have := List.drop_eq_nil_iff.1 hd2
        omega
      · rw [h] at hd2
        obtain ⟨hi2, h3⟩ := get_drop hd2
        rw [List.getElem?_eq_getElem hi2, h3] at q2
        exact q2 rfl
theorem wrote_head : ∀ (l : List Par), wrote l = [] ∨ ∃ r, wrote l = 32 :: r
  | [] => .inl rfl
  | p :: l => .inr ⟨p.name ++ (if p.has = true then 61 :: p.value else []) ++ wrote l, by simp [wrote, parW]⟩
theorem wrote_cons (p : Par) (l : List Par) : wrote (p :: l) = parW p ++ wrote l := by simp [wrote]
theorem parse_wrote {w : Bool} {s : List UInt8} : ∀ (l : List Par) (f i : Nat) (acc : List Par), s.drop i = wrote l → (∀ p ∈ l, parBad p = 0) → acc.length + l.length ≤ 16 → s.length - i < f → (∀ p ∈ l, p.has = true → badV w p.value < 0) → parseS w s f i acc = (acc ++ l, 0, 0)
  | [], f, i, acc, hd, _, _, hf, _ => by
    obtain ⟨f, rfl⟩ : ∃ g, f = g + 1 := ⟨f - 1, by omega⟩
    have := List.drop_eq_nil_iff.1 (show s.drop i = [] from hd)
    rw [parseS, if_neg (by omega), List.append_nil]
  | p :: l, f, i, acc, hd, hb, h16, hf, hw => by
    obtain ⟨f, rfl⟩ : ∃ g, f = g + 1 := ⟨f - 1, by omega⟩
    rw [wrote_cons] at hd
    have hp := hb p (List.mem_cons_self ..)
    rw [parse_step hd (wrote_head l) hp (by simp at h16; omega), if_neg]
    · have hpl : 0 < (parW p).length := by simp [parW]
      have hlen : i + (parW p).length ≤ s.length := by
        have := congrArg List.length hd
        simp at this
        omega
      rw [parse_wrote l f _ (acc ++ [p]) (drop_more hd) (fun q hq => hb q (List.mem_cons_of_mem _ hq)) (by simp at h16 ⊢; omega) (by omega) (fun q hq => hw q (List.mem_cons_of_mem _ hq)), List.append_assoc]
      rfl
    · rintro ⟨q1, q2⟩
      have := hw p (List.mem_cons_self ..) q1
      omega
theorem parse_wrote_bad {w : Bool} {s : List UInt8} : ∀ (l : List Par) (f i : Nat) (acc : List Par), s.drop i = wrote l → (∀ p ∈ l, parBad p = 0) → acc.length + l.length ≤ 16 → s.length - i < f → (∃ p ∈ l, p.has = true ∧ 0 ≤ badV w p.value) → (parseS w s f i acc).2.1 = 101
  | [], f, i, acc, hd, _, _, hf, h => by simp at h
  | p :: l, f, i, acc, hd, hb, h16, hf, hw => by
    obtain ⟨f, rfl⟩ : ∃ g, f = g + 1 := ⟨f - 1, by omega⟩
    rw [wrote_cons] at hd
    have hp := hb p (List.mem_cons_self ..)
    rw [parse_step hd (wrote_head l) hp (by simp at h16; omega)]
    by_cases hq : p.has = true ∧ 0 ≤ badV w p.value
    · rw [if_pos hq]
    · rw [if_neg hq]
      have hpl : 0 < (parW p).length := by simp [parW]
      have hlen : i + (parW p).length ≤ s.length := by
        have := congrArg List.length hd
        simp at this
        omega
      refine parse_wrote_bad l f _ (acc ++ [p]) (drop_more hd) (fun q hq => hb q (List.mem_cons_of_mem _ hq)) (by simp at h16 ⊢; omega) (by omega) ?_
      obtain ⟨q, h1, h2⟩ := hw
      rcases List.mem_cons.1 h1 with rfl | h1
      · exact absurd h2 hq
      · exact ⟨q, h1, h2⟩
theorem is10_13 : ∀ b : UInt8, isF 10 b.toNat = true → isF 13 b.toNat = true := by decide +kernel
theorem is_13 : isF 13 (32 : UInt8).toNat = true ∧ isF 13 (61 : UInt8).toNat = true := by decide +kernel
/-- Narrow bytes alone are written, where every value is narrow. -/
theorem wrote_13 {l : List Par} (hb : ∀ p ∈ l, parBad p = 0) : (∀ x ∈ wrote l, isF 13 x.toNat = true) ↔ ∀ p ∈ l, p.has = true → badV false p.value < 0 := by
  unfold wrote
  constructor
  · intro h p hp hh
    obtain ⟨_, _, _, k4, _⟩ := parBad_0 (hb p hp)
    refine (badV_13 (k4 hh)).2 fun x hx => h x ?_
    rw [List.mem_flatMap]
    exact ⟨p, hp, by simp [parW, hh, hx]⟩
  · intro h x hx
    rw [List.mem_flatMap] at hx
    obtain ⟨p, hp, hx⟩ := hx
    obtain ⟨k1, k2, _, k4, _⟩ := parBad_0 (hb p hp)
    unfold parW at hx
    cases hh : p.has with
    | true =>
      rw [hh] at hx
      simp only [if_true, List.cons_append, List.mem_cons, List.mem_append] at hx
      rcases hx with rfl | hx | rfl | hx
      · exact is_13.1
      · exact is10_13 x ((kwd_name k1 k2).2 x hx)
      · exact is_13.2
      · exact (badV_13 (k4 hh)).1 (h p hp hh) x hx
    | false =>
      rw [hh] at hx
      simp only [Bool.false_eq_true, if_false, List.append_nil, List.cons_append, List.mem_cons] at hx
      rcases hx with rfl | hx
      · exact is_13.1
      · exact is10_13 x ((kwd_name k1 k2).2 x hx)
/-- What is wrong is told at once. -/
theorem prs_err : ∀ {l : List Par}, (prs l).2 ≠ 0 → (prs l).1 = []
  | [], h => absurd rfl h
  | p :: l, h => by
    rw [prs] at h ⊢
    split
    · rename_i hp
      rw [if_pos hp] at h
      split
      · rename_i t ht
        rw [ht] at h
        exact absurd rfl h
      · rfl
    · rfl
theorem prs_0 : ∀ {l : List Par}, (prs l).2 = 0 → ∀ p ∈ l, parBad p = 0
  | [], _, p, hp => by simp at hp
  | q :: l, h, p, hp => by
    rw [prs] at h
    by_cases hq : parBad q = 0
    · rw [if_pos hq] at h
      rcases List.mem_cons.1 hp with rfl | hp
      · exact hq
      · refine prs_0 (l := l) ?_ p hp
        split at h
        · rename_i t ht
          rw [ht]
        · rename_i t e ht ht2
          rw [ht2]
          exact h
    · rw [if_neg hq] at h
      exact absurd h hq
theorem print_0 {l : List Par} (h : (printP l).2 = 0) : (∀ p ∈ l, parBad p = 0) ∧ l.length ≤ 16 ∧ (printP l).1 = wrote l := by
  unfold printP at h ⊢
  split at h
  · cases h
  · rename_i h16
    have hb := prs_0 h
    rw [if_neg h16, prs_ok hb]
    exact ⟨hb, by omega, rfl⟩
theorem print_err {l : List Par} (h : (printP l).2 ≠ 0) : (printP l).1 = [] := by
  unfold printP at h ⊢
  split
  · rfl
  · rename_i h16
    rw [if_neg h16] at h
    exact prs_err h
end Go.Proofs.YtmjoaiccbghijaaGreatDoor.paramAgain

namespace Go.Proofs.YtmjoaiccbghijaaGreatDoor.paramAgain
open Go.Ev hiding Comes

theorem up_is3 : ∀ b : UInt8, isF 3 (up b).toNat = isF 3 b.toNat := by decide +kernel
theorem up_is10 : ∀ b : UInt8, isF 10 (up b).toNat = isF 10 b.toNat := by decide +kernel
theorem up_up : ∀ b : UInt8, up (up b) = up b := by decide +kernel
theorem upS_upS (s : List UInt8) : upS (upS s) = upS s := by
  unfold upS
  rw [List.map_map]
  exact List.map_congr_left fun b _ => up_up b
theorem upS_app (a b : List UInt8) : upS (a ++ b) = upS a ++ upS b := List.map_append
theorem upS_len (a : List UInt8) : (upS a).length = a.length := List.length_map ..
theorem kwd_up {s : List UInt8} {n : Nat} (h : kwd s = n) (h0 : n ≠ 0) : kwd (upS (s.take n)) = n ∧ (s.take n).length = n := by
  have hle := kwd_le s
  have hl : (s.take n).length = n := by simp; omega
  refine ⟨?_, hl⟩
  cases s with
  | nil => rw [← h] at h0; exact absurd rfl h0
  | cons b r =>
    simp only [kwd] at h
    by_cases hb : isF 3 b.toNat = true
    · rw [if_pos hb] at h
      have e : (b :: r).take n = (b :: r).takeWhile fun b => isF 10 b.toNat := by
        rw [← h]
        exact (List.prefix_iff_eq_take.1 (List.takeWhile_prefix (p := fun b : UInt8 => isF 10 b.toNat) (l := b :: r))).symm
      have hall : ∀ x ∈ (b :: r).take n, isF 10 x.toNat = true := fun x hx => by
        rw [e] at hx
        exact List.all_eq_true.1 (List.all_takeWhile (p := fun b : UInt8 => isF 10 b.toNat) (l := b :: r)) x hx
      obtain ⟨n, rfl⟩ : ∃ k, n = k + 1 := ⟨n - 1, by omega⟩
      rw [List.take_succ_cons] at hall hl ⊢
      have e2 : upS (b :: r.take n) = up b :: upS (r.take n) := rfl
      rw [e2, kwd, if_pos (by rw [up_is3]; exact hb), ← e2]
      unfold sp
      rw [tw_end fun x hx => ?_, upS_len, hl]
      unfold upS at hx
      obtain ⟨y, hy, rfl⟩ := List.mem_map.1 hx
      rw [up_is10]
      exact hall y hy
    · rw [if_neg hb] at h
      exact absurd h.symm h0
theorem drop_split (s : List UInt8) (i n : Nat) : s.drop i = (s.drop i).take n ++ s.drop (i + n) := by
  have := (List.take_append_drop n (s.drop i)).symm
  rwa [List.drop_drop] at this
theorem parseS_succ (w : Bool) (s : List UInt8) (f i : Nat) (acc : List Par) : parseS w s (f + 1) i acc = (show List Par × Int × Int from
    if i < s.length then
      if s[i]? ≠ some 32 then ([], 100, i)
      else if acc.length = 16 then ([], 4, i)
      else if kwd (s.drop (i + 1)) = 0 then ([], 100, (i + 1 : Nat))
      else if s[i + 1 + kwd (s.drop (i + 1))]? = some 61 then
        if 0 ≤ badV w ((s.drop (i + 1 + kwd (s.drop (i + 1)) + 1)).take (til (s.drop (i + 1 + kwd (s.drop (i + 1)) + 1)))) then ([], 101, ((i + 1 + kwd (s.drop (i + 1)) + 1 : Nat) : Int) + badV w ((s.drop (i + 1 + kwd (s.drop (i + 1)) + 1)).take (til (s.drop (i + 1 + kwd (s.drop (i + 1)) + 1)))))
        else parseS w s f (i + 1 + kwd (s.drop (i + 1)) + 1 + til (s.drop (i + 1 + kwd (s.drop (i + 1)) + 1))) (acc ++ [⟨upS ((s.drop (i + 1)).take (kwd (s.drop (i + 1)))), (s.drop (i + 1 + kwd (s.drop (i + 1)) + 1)).take (til (s.drop (i + 1 + kwd (s.drop (i + 1)) + 1))), true⟩])
      else if i + 1 + kwd (s.drop (i + 1)) < s.length ∧ s[i + 1 + kwd (s.drop (i + 1))]? ≠ some 32 then ([], 100, (i + 1 + kwd (s.drop (i + 1)) : Nat))
      else parseS w s f (i + 1 + kwd (s.drop (i + 1))) (acc ++ [⟨upS ((s.drop (i + 1)).take (kwd (s.drop (i + 1)))), [], false⟩])
    else (acc, 0, 0)) := by rw [parseS]
theorem badV_bnd (w : Bool) (s : List UInt8) : -1 ≤ badV w s := by
  unfold badV
  split
  · omega
  split
  · omega
  split <;> omega
theorem parse_fuel {w : Bool} {s : List UInt8} : ∀ (f g i : Nat) (acc : List Par), s.length - i < f → s.length - i < g → parseS w s f i acc = parseS w s g i acc
  | 0, g, i, acc, hf, _ => by omega
  | f + 1, 0, i, acc, _, hg => by omega
  | f + 1, g + 1, i, acc, hf, hg => by
    have ih := fun j acc (h : i < j) => parse_fuel (w := w) (s := s) f g j acc
    rw [parseS, parseS]
    by_cases hi : i < s.length
    · simp only [if_pos hi]
      have h1 : ∀ j acc, i < j → parseS w s f j acc = parseS w s g j acc := fun j acc h => ih j acc h (by omega) (by omega)
      rw [h1 _ _ (by omega), h1 _ _ (by omega)]
    · simp only [if_neg hi]
/-- What an error tells. -/
theorem parse_err {w : Bool} {s : List UInt8} : ∀ (f i : Nat) (acc : List Par), i ≤ s.length → (parseS w s f i acc).2.1 = 0 ∧ (parseS w s f i acc).2.2 = 0 ∨ (parseS w s f i acc).1 = [] ∧ ((parseS w s f i acc).2.1 = 100 ∨ (parseS w s f i acc).2.1 = 101 ∨ (parseS w s f i acc).2.1 = 4) ∧ 0 ≤ (parseS w s f i acc).2.2 ∧ (parseS w s f i acc).2.2 ≤ s.length
  | 0, i, acc, _ => .inl ⟨rfl, rfl⟩
  | f + 1, i, acc, hi => by
    rw [parseS]
    by_cases h1 : i < s.length
    · rw [if_pos h1]
      have hk := kwd_le (s.drop (i + 1))
      rw [List.length_drop] at hk
      generalize kwd (s.drop (i + 1)) = n at hk
      split
      · exact .inr ⟨rfl, .inl rfl, by simp only; omega, by simp only; omega⟩
      split
      · exact .inr ⟨rfl, .inr (.inr rfl), by simp only; omega, by simp only; omega⟩
      split
      · exact .inr ⟨rfl, .inl rfl, by simp only; omega, by simp only; omega⟩
      split
      · rename_i h61
        have h61 := (List.getElem?_eq_some_iff.1 h61).1
        have ht := til_le (s.drop (i + 1 + n + 1))
        rw [List.length_drop] at ht
        split
        · rename_i hb
          have hb2 := badV_le w ((s.drop (i + 1 + n + 1)).take (til (s.drop (i + 1 + n + 1))))
          simp only [List.length_take, List.length_drop] at hb2
          exact .inr ⟨rfl, .inr (.inl rfl), by simp only; omega, by simp only; omega⟩
        · exact parse_err f _ _ (by omega)
      split
      · rename_i h3
        exact .inr ⟨rfl, .inl rfl, by simp only; omega, by simp only; omega⟩
      · exact parse_err f _ _ (by omega)
    · rw [if_neg h1]
      exact .inl ⟨rfl, rfl⟩
/-- What is read can be written: the text itself but for capitals. -/
theorem parse_inv {w : Bool} {s : List UInt8} : ∀ (f i : Nat) (acc l : List Par), i ≤ s.length → s.length - i < f → acc.length ≤ 16 → parseS w s f i acc = (l, 0, 0) → ∃ l', l = acc ++ l' ∧ l.length ≤ 16 ∧ (∀ p ∈ l', parBad p = 0 ∧ (p.has = true → badV w p.value < 0)) ∧ (wrote l').length = s.length - i ∧ upS (wrote l') = upS (s.drop i)
  | 0, i, acc, l, _, hf, _, _ => by omega
  | f + 1, i, acc, l, hi, hf, h16, h => by
    rw [parseS] at h
    by_cases h1 : i < s.length
    · rw [if_pos h1] at h
      have hk := kwd_le (s.drop (i + 1))
      rw [List.length_drop] at hk
      split at h
      · simp at h
      rename_i h32
      simp only [ne_eq, Decidable.not_not] at h32
      split at h
      · simp at h
      rename_i hn16
      split at h
      · simp at h
      rename_i hn0
      obtain ⟨hku, htk⟩ := kwd_up rfl hn0
      generalize hn : kwd (s.drop (i + 1)) = n at *
      have hd0 : s.drop i = 32 :: s.drop (i + 1) := by
        rw [List.drop_eq_getElem_cons h1]
        rw [List.getElem?_eq_getElem h1] at h32
        rw [Option.some.inj h32]
      have hd1 : s.drop (i + 1) = (s.drop (i + 1)).take n ++ s.drop (i + 1 + n) := by
        exact drop_split s (i + 1) n
      generalize hnm : (s.drop (i + 1)).take n = nm at *
      split at h
      · rename_i h61
        obtain ⟨h61l, h61e⟩ := List.getElem?_eq_some_iff.1 h61
        have hd2 : s.drop (i + 1 + n) = 61 :: s.drop (i + 1 + n + 1) := by
          rw [List.drop_eq_getElem_cons h61l, h61e]
        have ht := til_le (s.drop (i + 1 + n + 1))
        rw [List.length_drop] at ht
        have hd3 : s.drop (i + 1 + n + 1) = (s.drop (i + 1 + n + 1)).take (til (s.drop (i + 1 + n + 1))) ++ s.drop (i + 1 + n + 1 + til (s.drop (i + 1 + n + 1))) := by
          exact drop_split s (i + 1 + n + 1) _
        split at h
        · simp at h
        rename_i hb
        have hvl : ((s.drop (i + 1 + n + 1)).take (til (s.drop (i + 1 + n + 1)))).length = til (s.drop (i + 1 + n + 1)) := by simp; omega
        generalize hv : (s.drop (i + 1 + n + 1)).take (til (s.drop (i + 1 + n + 1))) = v at *
        generalize til (s.drop (i + 1 + n + 1)) = t at *
        obtain ⟨l', e1, e2, e3, e4, e5⟩ := parse_inv f _ _ l (by omega) (by omega) (by simp; omega) h
        refine ⟨⟨upS nm, v, true⟩ :: l', by rw [e1]; simp, e2, fun p hp => ?_, ?_, ?_⟩
        · rcases List.mem_cons.1 hp with rfl | hp
          · have hbw : badV w v < 0 := by omega
            refine ⟨?_, fun _ => hbw⟩
            have := badV_true hbw
            unfold parBad
            simp only [hku, upS_len, htk, upS_upS, hn0, ne_eq, not_true_eq_false, or_self, if_false, Bool.true_and, Bool.not_true, Bool.false_and, Bool.or_false]
            rw [if_neg]
            simp
            omega
          · exact e3 p hp
        · rw [wrote_cons]
          simp [parW, upS_len, htk, e4]
          omega
        · rw [wrote_cons, upS_app, e5, hd0, hd1, hd2]
          have : s.drop (i + 1 + n + 1) = v ++ s.drop (i + 1 + n + 1 + t) := hd3
          rw [this]
          have u1 : ∀ (b : UInt8) (r : List UInt8), upS (b :: r) = up b :: upS r := fun _ _ => rfl
          simp only [parW, if_true, List.cons_append, upS_app, u1, upS_upS, List.append_assoc]
      split at h
      · simp at h
      · obtain ⟨l', e1, e2, e3, e4, e5⟩ := parse_inv f _ _ l (by omega) (by omega) (by simp; omega) h
        refine ⟨⟨upS nm, [], false⟩ :: l', by rw [e1]; simp, e2, fun p hp => ?_, ?_, ?_⟩
        · rcases List.mem_cons.1 hp with rfl | hp
          · refine ⟨?_, fun h => by cases h⟩
            unfold parBad
            simp [hku, upS_len, htk, upS_upS, hn0]
          · exact e3 p hp
        · rw [wrote_cons]
          simp [parW, upS_len, htk, e4]
          omega
        · rw [wrote_cons, upS_app, e5, hd0, hd1]
          have u1 : ∀ (b : UInt8) (r : List UInt8), upS (b :: r) = up b :: upS r := fun _ _ => rfl
          simp only [parW, Bool.false_eq_true, if_false, List.append_nil, List.cons_append, upS_app, u1, upS_upS]
    · rw [if_neg h1] at h
      simp only [Prod.mk.injEq, and_true] at h
      subst h
      exact ⟨[], by simp, h16, by simp, by simp [wrote]; omega, by rw [List.drop_eq_nil_of_le (by omega)]; rfl⟩
/-- What stands wrong stays wrong behind another text. -/
theorem parse_later {w : Bool} (q s : List UInt8) : ∀ (f i : Nat) (accA accB : List Par), accA.length = accB.length + 1 → accB.length ≤ 16 → (parseS w s f i accB).2.1 ≠ 0 → (parseS w s f i accB).2.1 = 4 ∨ (parseS w (q ++ s) f (q.length + i) accA).2.1 = 4 ∨ ((parseS w (q ++ s) f (q.length + i) accA).2.1 = (parseS w s f i accB).2.1 ∧ (parseS w (q ++ s) f (q.length + i) accA).2.2 = (parseS w s f i accB).2.2 + q.length)
  | 0, i, accA, accB, _, _, h => absurd rfl h
  | f + 1, i, accA, accB, hl, h16, h => by
    have gt : ∀ j : Nat, (q ++ s)[q.length + j]? = s[j]? := fun j => by rw [List.getElem?_append_right (by omega), Nat.add_sub_cancel_left]
    have dr : ∀ j : Nat, (q ++ s).drop (q.length + j) = s.drop j := fun j => by rw [← List.drop_drop, List.drop_left]
    have ln : (q ++ s).length = q.length + s.length := List.length_append
    have a1 : ∀ j : Nat, q.length + i + j = q.length + (i + j) := fun j => by omega
    rw [parseS_succ w s] at h ⊢
    rw [parseS_succ w (q ++ s)]
    by_cases hi : i < s.length
    · rw [if_pos hi] at h ⊢
      rw [if_pos (show q.length + i < (q ++ s).length by omega)]
      have d1 := dr (i + 1)
      have e1 := a1 1
      rw [e1, gt i, d1]
      by_cases c1 : s[i]? ≠ some 32
      · rw [if_pos c1] at h ⊢
        rw [if_pos c1]
        exact .inr (.inr ⟨rfl, by simp only; omega⟩)
      rw [if_neg c1] at h ⊢
      rw [if_neg c1]
      by_cases c2 : accB.length = 16
      · rw [if_pos c2]
        exact .inl rfl
      rw [if_neg c2] at h ⊢
      by_cases c2' : accA.length = 16
      · rw [if_pos c2']
        exact .inr (.inl rfl)
      rw [if_neg c2']
      generalize hn : kwd (s.drop (i + 1)) = n at *
      by_cases c3 : n = 0
      · rw [if_pos c3] at h ⊢
        rw [if_pos c3]
        exact .inr (.inr ⟨rfl, by simp only; omega⟩)
      rw [if_neg c3] at h ⊢
      rw [if_neg c3]
      have e2 : q.length + (i + 1) + n = q.length + (i + 1 + n) := by omega
      rw [e2, gt (i + 1 + n)]
      have e3 : q.length + (i + 1 + n) + 1 = q.length + (i + 1 + n + 1) := by omega
      rw [e3, dr (i + 1 + n + 1)]
      by_cases c4 : s[i + 1 + n]? = some 61
      · rw [if_pos c4] at h ⊢
        rw [if_pos c4]
        by_cases c5 : 0 ≤ badV w ((s.drop (i + 1 + n + 1)).take (til (s.drop (i + 1 + n + 1))))
        · rw [if_pos c5] at h ⊢
          rw [if_pos c5]
          exact .inr (.inr ⟨rfl, by simp only; omega⟩)
        rw [if_neg c5] at h ⊢
        rw [if_neg c5]
        have e4 : q.length + (i + 1 + n + 1) + til (s.drop (i + 1 + n + 1)) = q.length + (i + 1 + n + 1 + til (s.drop (i + 1 + n + 1))) := by omega
        rw [e4]
        exact parse_later q s f _ _ _ (by simp [hl]) (by simp; omega) h
      rw [if_neg c4] at h ⊢
      rw [if_neg c4]
      by_cases c6 : i + 1 + n < s.length ∧ s[i + 1 + n]? ≠ some 32
      · rw [if_pos c6] at h ⊢
        rw [if_pos ⟨by omega, c6.2⟩]
        exact .inr (.inr ⟨rfl, by simp only; omega⟩)
      · rw [if_neg c6] at h ⊢
        rw [if_neg (fun ⟨x, y⟩ => c6 ⟨by omega, y⟩)]
        exact parse_later q s f _ _ _ (by simp [hl]) (by simp; omega) h
    · rw [if_neg hi] at h
      exact absurd rfl h
end Go.Proofs.YtmjoaiccbghijaaGreatDoor.paramAgain

namespace Go.Proofs.YtmjoaiccbghijaaGreatDoor.paramAgain
open Go.Ev hiding Comes
variable [GG]

/-- A variable of strings.Builder: its block, where its bytes lie, the bytes. -/
def Bld (k : Option Nat) (m : Mem) (b : Nat) (s : List UInt8) : Prop :=
  ∃ p v, RowG m b genB [p, v] ∧ (p = .ptr none ∨ p = .ptr (some ⟨.mem b genB, 0⟩)) ∧ (∀ j, k = some j → j ≠ b) ∧ OwnK k 1 tagB m v (bytesE s) s.length
theorem Bld.lt {k : Option Nat} {b : Nat} {m : Mem} {s : List UInt8} (h : Bld k m b s) : b < m.bl.length := by
  obtain ⟨_, _, h, _⟩ := h
  exact h.lt
theorem Bld.ltk {j : Nat} {b : Nat} {m : Mem} {s : List UInt8} (h : Bld (some j) m b s) : j < m.bl.length := by
  obtain ⟨_, _, _, _, _, h⟩ := h
  exact h.lt
theorem Bld.grown {k : Option Nat} {b : Nat} {m m' : Mem} {s : List UInt8} (h : Bld k m b s) (hg : Grown m m') : Bld k m' b s := by
  obtain ⟨p, v, h1, h2, h3, h4⟩ := h
  exact ⟨p, v, by unfold RowG; rw [hg.at h1.lt]; exact h1, h2, h3, h4.grown hg⟩
theorem Bld.new {m M : Mem} (e : M = m.push (.cells [.ptr none, .slice none 0 0 0] genB true)) : Bld none M m.bl.length [] := by
  rw [e]
  exact ⟨.ptr none, .slice none 0 0 0, by simp [RowG, Mem.push], .inl rfl, (fun j h => by cases h), OwnK.nil⟩
theorem tagB_ok : TagOk tagB := .inr ⟨tagB / typeK, by decide, rfl⟩
theorem c_abi_NoEscape (m : Mem) (x : EV) : Go.Ev.Comes T G f_abi_NoEscape [x] m none ⟨.val x, m, none⟩ := ⟨1, by simp only [evFun, T_abi_NoEscape, F_abi_NoEscape, Option.isSome_none, Bool.false_eq_true, if_false, primE, noeE, Option.map_some]⟩

theorem c_Builder_copyCheck (m : Mem) (b : Nat) (p v : EV) (h : RowG m b genB [p, v]) (hp : p = .ptr none ∨ p = .ptr (some ⟨.mem b genB, 0⟩)) :
    ∃ r, Go.Ev.Comes T G f_Builder_copyCheck [.ptr (some ⟨.mem b genB, 0⟩)] m none r ∧ ∃ m', r = ⟨.val (.tuple []), m', none⟩ ∧ RowG m' b genB [.ptr (some ⟨.mem b genB, 0⟩), v] ∧ But1 b m m' ∧ min m.low b ≤ m'.low := by
  refine comes2P T_Builder_copyCheck rfl fun M hg hlen hlow => ?_
  have hM := h.same (begin_bl hg hlen)
  have hb := h.lt
  simp only [F_Builder_copyCheck]
  rcases hp with rfl | rfl
  · obtain ⟨M1, p1, R1, t1, w1⟩ := hM.put1 (off := 0) (v := .ptr (some ⟨.mem b genB, 0⟩)) (by simp)
    simp +contextual only [vq, vc, ve, vv, vn, vl, ↓reduceIte, Nat.reduceEqDiff, Nat.reduceAdd, Nat.reduceMul, Nat.reduceSub, Nat.reduceLeDiff, Nat.reduceLT, Nat.reduceBEq, Nat.reduceBNe, reduceCtorEq, Int.reduceBEq, Int.reduceBNe, Int.reduceLT, Int.reduceLE, Int.reduceEq, Int.reduceToNat, Int.reduceAdd, Int.reduceSub, Int.reduceNeg, hM.get (G := G), ust_row hM (by simp), callR_val (c_abi_NoEscape _ _), usf_row hM, show usfE M genB 2 (.ptr (some ⟨.mem b genB, 0⟩)) = some (.ptr (some ⟨.mem b genB, 0⟩), M) from usf_row hM, p1]
    refine postX_wroteN (v := .tuple []) rfl (by omega) ⟨_, rfl, R1, ⟨by rw [t1.1]; exact hlen, fun j hj => ?_⟩, by simp only; omega⟩
    show M1.bl[j]? = _
    rw [t1.2 j hj, begin_bl hg hlen]
  · simp +contextual only [vq, vc, ve, vv, vn, vl, ↓reduceIte, Nat.reduceEqDiff, Nat.reduceAdd, Nat.reduceMul, Nat.reduceSub, Nat.reduceLeDiff, Nat.reduceLT, Nat.reduceBEq, Nat.reduceBNe, reduceCtorEq, Int.reduceBEq, Int.reduceBNe, Int.reduceLT, Int.reduceLE, Int.reduceEq, Int.reduceToNat, Int.reduceAdd, Int.reduceSub, Int.reduceNeg, hM.get (G := G), ptq_same hM]
    exact postX_sameN (v := .tuple []) rfl (by omega) rfl ⟨_, rfl, h, But1.rfl', by omega⟩
end Go.Proofs.YtmjoaiccbghijaaGreatDoor.paramAgain

namespace Go.Proofs.YtmjoaiccbghijaaGreatDoor.paramAgain
open Go.Ev hiding Comes
variable [GG]

theorem c_Builder_WriteString (m : Mem) (k : Option Nat) (b : Nat) (s t : List UInt8) (h : Bld k m b s) (hs : s.length + t.length ≤ 1000000000000) :
    ∃ k' m', Go.Ev.Comes T G f_Builder_WriteString [.ptr (some ⟨.mem b genB, 0⟩), .str t] m none ⟨.val (.tuple [.int .i64 t.length, .nilIface]), m', none⟩ ∧ Bld k' m' b (s ++ t) ∧ (k' = k ∨ k = none ∧ k' = some m.bl.length) ∧ Edit b k m m' := by
  have hlt := h.lt
  obtain ⟨p, v, hR, hp, hk, ho⟩ := h
  suffices H : ∃ r, Go.Ev.Comes T G f_Builder_WriteString [.ptr (some ⟨.mem b genB, 0⟩), .str t] m none r ∧ ∃ k' m', r = ⟨.val (.tuple [.int .i64 t.length, .nilIface]), m', none⟩ ∧ Bld k' m' b (s ++ t) ∧ (k' = k ∨ k = none ∧ k' = some m.bl.length) ∧ Edit b k m m' by
    obtain ⟨_, hc, k', m', rfl, h⟩ := H
    exact ⟨k', m', hc, h⟩
  refine comes2P T_Builder_WriteString rfl fun M hg hlen hlow => ?_
  have hM := begin_bl hg hlen
  obtain ⟨_, hc, M1, rfl, R1, t1, w1⟩ := c_Builder_copyCheck M b p v (hR.same hM) hp
  have b1 := t1.1
  have o1 : OwnK k 1 tagB M1 v (bytesE s) s.length := ho.keep fun j hj => by rw [t1.2 j (hk j hj), hM]
  have hb1 : s.length + t.length = (s ++ t).length := by simp
  have app : ∃ v2 M2 k2, appendE G M1 1 1 tagB v (bytesE t) t.length = some (v2, M2) ∧ OwnK k2 1 tagB M2 v2 (bytesE (s ++ t)) (s ++ t).length ∧ (∀ j, k2 = some j → j ≠ b) ∧ (k2 = k ∨ k = none ∧ k2 = some m.bl.length) ∧ RowG M2 b genB [.ptr (some ⟨.mem b genB, 0⟩), v] ∧ (∀ j, j < M1.bl.length → some j ≠ k → M2.bl[j]? = M1.bl[j]?) ∧ M1.bl.length ≤ M2.bl.length ∧ min M1.low (k.getD M1.bl.length) ≤ M2.low := by
    by_cases h0 : t = []
    · subst h0
      refine ⟨v, M1, k, ?_, by rw [List.append_nil]; exact o1, hk, .inl rfl, R1, fun _ _ _ => rfl, Nat.le_refl _, by omega⟩
      rcases o1.row with ⟨rfl, _, _⟩ | ⟨j, g, _, rfl, _⟩ <;> simp [appendE]
    · have ht : t.length ≠ 0 := fun e => h0 (List.length_eq_zero_iff.1 e)
      obtain ⟨v2, M2, k2, ha, o2, hkk, hj, hl2, w2⟩ := own_app (G := G) (bytes := 1) o1 tagB_ok (by omega) (show (bytesE t).length = t.length * 1 by simp [bytesE]) ht (by omega)
      have hlt1 := R1.lt
      refine ⟨v2, M2, some k2, ha, by rw [bytes_app, List.length_append]; exact o2, fun j hj => ?_, ?_, ?_, hj, hl2, ?_⟩
      · cases hj
        rcases hkk with e | ⟨_, e⟩
        · exact hk _ e
        · omega
      · rcases hkk with e | ⟨e1, e⟩
        · exact .inl e.symm
        · exact .inr ⟨e1, by rw [e, b1, hlen]⟩
      · unfold RowG
        rw [hj b R1.lt (fun e => hk b e.symm rfl)]
        exact R1
      · rcases hkk with e | ⟨e1, e⟩
        · rw [e]; exact w2
        · rw [e1, ← e]; exact w2
  obtain ⟨v2, M2, k2, ha, o2, hk2, hkk, R2, hsame, hl2, w2⟩ := app
  obtain ⟨a2, c2, e2, rfl⟩ := o2.slice
  obtain ⟨M3, p3, R3, t3, w3⟩ := R2.put1 (off := 1) (v := .slice a2 (s ++ t).length c2 e2) (by simp)
  have b3 := t3.1
  simp only [F_Builder_WriteString]
  simp +contextual only [vq, vc, ve, vv, vn, vl, ↓reduceIte, Nat.reduceEqDiff, Nat.reduceAdd, Nat.reduceMul, Nat.reduceSub, Nat.reduceLeDiff, Nat.reduceLT, Nat.reduceBEq, Nat.reduceBNe, reduceCtorEq, Int.reduceBEq, Int.reduceBNe, Int.reduceLT, Int.reduceLE, Int.reduceEq, Int.reduceToNat, Int.reduceAdd, Int.reduceSub, Int.reduceNeg, callR_val hc, R1.get (G := G), ha, p3]
  refine postX_wrote (v := .tuple [.int .i64 t.length, .nilIface]) (by simp +contextual only [vq, vc, ve, vv, vn, vl, ↓reduceIte, Nat.reduceEqDiff, Nat.reduceAdd, Nat.reduceMul, Nat.reduceSub, Nat.reduceLeDiff, Nat.reduceLT, Nat.reduceBEq, Nat.reduceBNe, reduceCtorEq, Int.reduceBEq, Int.reduceBNe, Int.reduceLT, Int.reduceLE, Int.reduceEq, Int.reduceToNat, Int.reduceAdd, Int.reduceSub, Int.reduceNeg]) (by omega) ⟨k2, _, rfl, ⟨_, _, R3, .inr rfl, hk2, o2.keep fun j hj => t3.2 j (hk2 j hj)⟩, hkk, fun j h1 h2 h3 => ?_, ?_, fun n0 h1 h2 h3 h4 => ?_⟩
  · show M3.bl[j]? = _
    rw [t3.2 j h2, hsame j (by omega) h3, t1.2 j h2, hM]
  · show m.bl.length ≤ M3.bl.length
    omega
  · show n0 ≤ min m.low M3.low
    have : n0 ≤ k.getD M1.bl.length := by
      cases k with
      | none => simp only [Option.getD_none]; omega
      | some j => exact h4 j rfl
    omega
end Go.Proofs.YtmjoaiccbghijaaGreatDoor.paramAgain

namespace Go.Proofs.YtmjoaiccbghijaaGreatDoor.paramAgain
open Go.Ev hiding Comes
variable [GG]

theorem c_Builder_String (m : Mem) (k : Option Nat) (b : Nat) (s : List UInt8) (h : Bld k m b s) (hs : s.length ≤ 1000000000000) :
    ∃ m', Go.Ev.Comes T G f_Builder_String [.ptr (some ⟨.mem b genB, 0⟩)] m none ⟨.val (.str s), m', none⟩ ∧ Edit b k m m' := by
  have hlt := h.lt
  obtain ⟨p, v, hR, hp, hk, ho⟩ := h
  suffices H : ∃ r, Go.Ev.Comes T G f_Builder_String [.ptr (some ⟨.mem b genB, 0⟩)] m none r ∧ ∃ m', r = ⟨.val (.str s), m', none⟩ ∧ Edit b k m m' by
    obtain ⟨_, hc, m', rfl, h2⟩ := H
    exact ⟨m', hc, h2⟩
  refine comes2P T_Builder_String rfl fun M hg hlen hlow => ?_
  have hM := begin_bl hg hlen
  have RM := hR.same hM
  have oM : OwnK k 1 tagB M v (bytesE s) s.length := ho.keep fun j hj => by rw [hM]
  have hold : (b < M.bl.length) = True := eq_true (by omega)
  simp only [F_Builder_String]
  rcases oM.row with ⟨rfl, h2, h3⟩ | ⟨j, g, rfl, rfl, h3, hr⟩
  · have : s = [] := List.length_eq_zero_iff.1 h3
    subst this
    have hu : unsE G ⟨M.bl, M.bl.length⟩ tagB (.ptr none) (.int .i64 ((0 : Nat) : Int)) = some (.str [], ⟨M.bl, M.bl.length⟩) := rfl
    simp +contextual only [vq, vc, ve, vv, vn, vl, ↓reduceIte, Nat.reduceEqDiff, Nat.reduceAdd, Nat.reduceMul, Nat.reduceSub, Nat.reduceLeDiff, Nat.reduceLT, Nat.reduceBEq, Nat.reduceBNe, reduceCtorEq, Int.reduceBEq, Int.reduceBNe, Int.reduceLT, Int.reduceLE, Int.reduceEq, Int.reduceToNat, Int.reduceAdd, Int.reduceSub, Int.reduceNeg, RM.get (G := G), hold, hu]
    exact postX_same (v := .str []) (by simp +contextual only [vq, vc, ve, vv, vn, vl, ↓reduceIte, Nat.reduceEqDiff, Nat.reduceAdd, Nat.reduceMul, Nat.reduceSub, Nat.reduceLeDiff, Nat.reduceLT, Nat.reduceBEq, Nat.reduceBNe, reduceCtorEq, Int.reduceBEq, Int.reduceBNe, Int.reduceLT, Int.reduceLE, Int.reduceEq, Int.reduceToNat, Int.reduceAdd, Int.reduceSub, Int.reduceNeg]) (by omega) rfl ⟨_, rfl, fun _ _ _ _ => rfl, Nat.le_refl _, fun _ h _ _ _ => h⟩
  · have hk2 := hk j rfl
    have hjl := oM.lt
    obtain ⟨g', _, he, hrl, hrow⟩ := oM
    have hg' : g' = g := by
      simp only [EV.slice.injEq, Option.some.injEq, Ad.mk.injEq, Base.mem.injEq] at he
      omega
    subst hg'
    have hu : unsE G ⟨M.bl, M.bl.length⟩ tagB (.ptr (some ⟨.mem j (tagB + g'), 0⟩)) (.int .i64 (s.length : Nat)) = some (.str s, ⟨M.bl.set j (.cells (bytesE s) (tagB + g') false), min M.bl.length j⟩) := by
      have hgN : Mem.getN G ⟨M.bl, M.bl.length⟩ ⟨.mem j (tagB + g'), 0⟩ s.length = some (bytesE s) := hr G 0 s.length (bytesE s) (sub_all bytes_len)
      have ht := tag_step (g := g') tagB_ok (by omega)
      have hty : typeK ≤ tagB := by decide
      simp only [unsE]
      rw [if_neg (by omega), if_neg (by omega)]
      simp only [hrow]
      rw [if_pos ⟨trivial, by rcases ht.2 with h | h; omega; exact h.1.symm, by omega, trivial⟩, Int.toNat_natCast, hgN]
      simp only [Option.bind_some, strE_of, Option.map_some]
    simp +contextual only [vq, vc, ve, vv, vn, vl, ↓reduceIte, Nat.reduceEqDiff, Nat.reduceAdd, Nat.reduceMul, Nat.reduceSub, Nat.reduceLeDiff, Nat.reduceLT, Nat.reduceBEq, Nat.reduceBNe, reduceCtorEq, Int.reduceBEq, Int.reduceBNe, Int.reduceLT, Int.reduceLE, Int.reduceEq, Int.reduceToNat, Int.reduceAdd, Int.reduceSub, Int.reduceNeg, RM.get (G := G), hold, h3, hu]
    rw [endD_wrote (by simp only; omega)]
    simp +contextual only [vq, vc, ve, vv, vn, vl, ↓reduceIte, Nat.reduceEqDiff, Nat.reduceAdd, Nat.reduceMul, Nat.reduceSub, Nat.reduceLeDiff, Nat.reduceLT, Nat.reduceBEq, Nat.reduceBNe, reduceCtorEq, Int.reduceBEq, Int.reduceBNe, Int.reduceLT, Int.reduceLE, Int.reduceEq, Int.reduceToNat, Int.reduceAdd, Int.reduceSub, Int.reduceNeg]
    have hj2 := hjl
    refine postX_wrote (v := .str s) (by simp +contextual only [vq, vc, ve, vv, vn, vl, ↓reduceIte, Nat.reduceEqDiff, Nat.reduceAdd, Nat.reduceMul, Nat.reduceSub, Nat.reduceLeDiff, Nat.reduceLT, Nat.reduceBEq, Nat.reduceBNe, reduceCtorEq, Int.reduceBEq, Int.reduceBNe, Int.reduceLT, Int.reduceLE, Int.reduceEq, Int.reduceToNat, Int.reduceAdd, Int.reduceSub, Int.reduceNeg]) (by simp only; omega) ⟨_, rfl, fun i h1 h2 h3 => ?_, ?_, fun n0 h1 h2 h3 h4 => ?_⟩
    · simp only
      rw [List.getElem?_set_ne (fun e => h3 (by rw [e])), hM]
    · simp only [List.length_set]; omega
    · have := h4 j rfl
      simp only
      omega
end Go.Proofs.YtmjoaiccbghijaaGreatDoor.paramAgain

namespace Go.Proofs.YtmjoaiccbghijaaGreatDoor.paramAgain
open Go.Ev hiding Comes
variable [GG]

theorem c_param_Print (m : Mem) (x : EV) (l : List Par) (hx : Pars G m x l) (hN : ParsOk l) : Go.Ev.Comes T G f_param_Print [x] m none ⟨.val (.tuple [.str (printP l).1, .int .i64 (printP l).2]), m, none⟩ := by
  refine comes2 T_param_Print rfl fun M hg hlen hlow => ?_
  have hl0 : m.bl.length ≤ M.low := by omega
  obtain ⟨a0, c0, e0, sx⟩ := hx.slice
  have e16 : ((16 : Int) < (l.length : Int)) = (16 < l.length) := propext ⟨fun h => by omega, fun h => by omega⟩
  simp only [F_param_Print]
  by_cases h16 : 16 < l.length
  · have hp : printP l = ([], 4) := if_pos h16
    simp +contextual only [vq, vc, ve, vv, vn, vl, ↓reduceIte, Nat.reduceEqDiff, Nat.reduceAdd, Nat.reduceMul, Nat.reduceSub, Nat.reduceLeDiff, Nat.reduceLT, Nat.reduceBEq, Nat.reduceBNe, reduceCtorEq, Int.reduceBEq, Int.reduceBNe, Int.reduceLT, Int.reduceLE, Int.reduceEq, Int.reduceToNat, Int.reduceAdd, Int.reduceSub, Int.reduceNeg, sx, e16, h16, hp, hl0]
  have hp : printP l = prs l := if_neg h16
  simp +contextual only [vq, vc, ve, vv, vn, vl, ↓reduceIte, Nat.reduceEqDiff, Nat.reduceAdd, Nat.reduceMul, Nat.reduceSub, Nat.reduceLeDiff, Nat.reduceLT, Nat.reduceBEq, Nat.reduceBNe, reduceCtorEq, Int.reduceBEq, Int.reduceBNe, Int.reduceLT, Int.reduceLE, Int.reduceEq, Int.reduceToNat, Int.reduceAdd, Int.reduceSub, Int.reduceNeg, sx, e16, h16]
  refine new_mk fun M1 e1 => ?_
  have B1 : Bld none M1 M.bl.length [] := Bld.new e1
  have l1 : M1.low = M.low := by rw [e1]; rfl
  have g1 : Grown m M1 := by rw [e1]; exact hg.push
  have b1 := B1.lt
  simp +contextual only [vq, vc, ve, vv, vn, vl, ↓reduceIte, Nat.reduceEqDiff, Nat.reduceAdd, Nat.reduceMul, Nat.reduceSub, Nat.reduceLeDiff, Nat.reduceLT, Nat.reduceBEq, Nat.reduceBNe, reduceCtorEq, Int.reduceBEq, Int.reduceBNe, Int.reduceLT, Int.reduceLE, Int.reduceEq, Int.reduceToNat, Int.reduceAdd, Int.reduceSub, Int.reduceNeg]
  refine loop2 (fun n st => ∃ i A N k, st = ⟨A, N, [], none⟩ ∧ Grown m N ∧ m.bl.length ≤ N.low ∧ n = l.length - i ∧ i ≤ l.length ∧ A 4 = .ptr (some ⟨.mem M.bl.length genB, 0⟩) ∧ A 11 = x ∧ A 12 = .int .i64 l.length ∧ A 13 = .int .i64 (i : Nat) ∧ Bld k N M.bl.length (wrote (l.take i)) ∧ (∀ j, k = some j → m.bl.length ≤ j) ∧ ∀ p ∈ l.take i, parBad p = 0) l.length ⟨0, _, M1, none, rfl, g1, by omega, by omega, by omega, by simp +contextual only [vq, vc, ve, vv, vn, vl, ↓reduceIte, Nat.reduceEqDiff, Nat.reduceAdd, Nat.reduceMul, Nat.reduceSub, Nat.reduceLeDiff, Nat.reduceLT, Nat.reduceBEq, Nat.reduceBNe, reduceCtorEq, Int.reduceBEq, Int.reduceBNe, Int.reduceLT, Int.reduceLE, Int.reduceEq, Int.reduceToNat, Int.reduceAdd, Int.reduceSub, Int.reduceNeg], by simp +contextual only [vq, vc, ve, vv, vn, vl, ↓reduceIte, Nat.reduceEqDiff, Nat.reduceAdd, Nat.reduceMul, Nat.reduceSub, Nat.reduceLeDiff, Nat.reduceLT, Nat.reduceBEq, Nat.reduceBNe, reduceCtorEq, Int.reduceBEq, Int.reduceBNe, Int.reduceLT, Int.reduceLE, Int.reduceEq, Int.reduceToNat, Int.reduceAdd, Int.reduceSub, Int.reduceNeg, sx], by simp +contextual only [vq, vc, ve, vv, vn, vl, ↓reduceIte, Nat.reduceEqDiff, Nat.reduceAdd, Nat.reduceMul, Nat.reduceSub, Nat.reduceLeDiff, Nat.reduceLT, Nat.reduceBEq, Nat.reduceBNe, reduceCtorEq, Int.reduceBEq, Int.reduceBNe, Int.reduceLT, Int.reduceLE, Int.reduceEq, Int.reduceToNat, Int.reduceAdd, Int.reduceSub, Int.reduceNeg], by simp +contextual only [vq, vc, ve, vv, vn, vl, ↓reduceIte, Nat.reduceEqDiff, Nat.reduceAdd, Nat.reduceMul, Nat.reduceSub, Nat.reduceLeDiff, Nat.reduceLT, Nat.reduceBEq, Nat.reduceBNe, reduceCtorEq, Int.reduceBEq, Int.reduceBNe, Int.reduceLT, Int.reduceLE, Int.reduceEq, Int.reduceToNat, Int.reduceAdd, Int.reduceSub, Int.reduceNeg]; rfl, B1, (fun j h => by cases h), by simp⟩ fun J hJ n st hI => ?_
  obtain ⟨i, A, N, k, rfl, gN, lN, rfl, hi, A4, A11, A12, A13, BN, hk, hok⟩ := hI
  have hwl := wrote_len (l := l.take i) fun q hq => hN q (List.mem_of_mem_take hq)
  rw [List.length_take] at hwl
  simp +contextual only [vq, vc, ve, vv, vn, vl, ↓reduceIte, Nat.reduceEqDiff, Nat.reduceAdd, Nat.reduceMul, Nat.reduceSub, Nat.reduceLeDiff, Nat.reduceLT, Nat.reduceBEq, Nat.reduceBNe, reduceCtorEq, Int.reduceBEq, Int.reduceBNe, Int.reduceLT, Int.reduceLE, Int.reduceEq, Int.reduceToNat, Int.reduceAdd, Int.reduceSub, Int.reduceNeg, A12, A13]
  refine br2_dec (fun hlt => ?_) (fun hge => ?_)
  · obtain ⟨a, cap, q1, _, hgp, _⟩ := (hx.grown gN).at hlt
    rw [q1] at A11
    have hpN := hN l[i] (List.getElem_mem hlt)
    simp +contextual only [vq, vc, ve, vv, vn, vl, ↓reduceIte, Nat.reduceEqDiff, Nat.reduceAdd, Nat.reduceMul, Nat.reduceSub, Nat.reduceLeDiff, Nat.reduceLT, Nat.reduceBEq, Nat.reduceBNe, reduceCtorEq, Int.reduceBEq, Int.reduceBNe, Int.reduceLT, Int.reduceLE, Int.reduceEq, Int.reduceToNat, Int.reduceAdd, Int.reduceSub, Int.reduceNeg, A11, A13, hlt, hgp, parE]
    refine new_mk fun N1 f1 => ?_
    obtain ⟨N2, p2, g2, R2, b2, w2⟩ := put_new f1 (cs := parE l[i]) rfl
    simp only [parE] at p2 R2
    have r2 := R2.lt
    have n2 : m.bl.length ≤ N2.low := by have := gN.le; omega
    simp +contextual only [vq, vc, ve, vv, vn, vl, ↓reduceIte, Nat.reduceEqDiff, Nat.reduceAdd, Nat.reduceMul, Nat.reduceSub, Nat.reduceLeDiff, Nat.reduceLT, Nat.reduceBEq, Nat.reduceBNe, reduceCtorEq, Int.reduceBEq, Int.reduceBNe, Int.reduceLT, Int.reduceLE, Int.reduceEq, Int.reduceToNat, Int.reduceAdd, Int.reduceSub, Int.reduceNeg, p2, R2.get (G := G), callR_val (c_param_keyword _ _ (show (l[i]).name.length ≤ _ by omega)), callR_val (c_octet_Upper _ _ (show (l[i]).name.length ≤ _ by omega)), r2, bad_kw]
    refine br2_dec (fun hb1 => ?_) (fun hb1 => ?_)
    · have e1 : parBad l[i] = 100 := if_pos hb1
      have e2 : prs l = ([], 100) := by rw [prs_bad hlt hok (by rw [e1]; omega), e1]
      simp +contextual only [vq, vc, ve, vv, vn, vl, ↓reduceIte, Nat.reduceEqDiff, Nat.reduceAdd, Nat.reduceMul, Nat.reduceSub, Nat.reduceLeDiff, Nat.reduceLT, Nat.reduceBEq, Nat.reduceBNe, reduceCtorEq, Int.reduceBEq, Int.reduceBNe, Int.reduceLT, Int.reduceLE, Int.reduceEq, Int.reduceToNat, Int.reduceAdd, Int.reduceSub, Int.reduceNeg, hp, e2, n2]
    simp +contextual only [vq, vc, ve, vv, vn, vl, ↓reduceIte, Nat.reduceEqDiff, Nat.reduceAdd, Nat.reduceMul, Nat.reduceSub, Nat.reduceLeDiff, Nat.reduceLT, Nat.reduceBEq, Nat.reduceBNe, reduceCtorEq, Int.reduceBEq, Int.reduceBNe, Int.reduceLT, Int.reduceLE, Int.reduceEq, Int.reduceToNat, Int.reduceAdd, Int.reduceSub, Int.reduceNeg, R2.get (G := G), callR_val (c_param_badValue _ _ _ (show (l[i]).value.length ≤ _ by omega))]
    refine br2_mk (fun hb2 => ?_) (fun hb2 => ?_)
    · have e1 : parBad l[i] = 101 := by rw [parBad, if_neg hb1, if_pos hb2]
      have e2 : prs l = ([], 101) := by rw [prs_bad hlt hok (by rw [e1]; omega), e1]
      simp +contextual only [vq, vc, ve, vv, vn, vl, ↓reduceIte, Nat.reduceEqDiff, Nat.reduceAdd, Nat.reduceMul, Nat.reduceSub, Nat.reduceLeDiff, Nat.reduceLT, Nat.reduceBEq, Nat.reduceBNe, reduceCtorEq, Int.reduceBEq, Int.reduceBNe, Int.reduceLT, Int.reduceLE, Int.reduceEq, Int.reduceToNat, Int.reduceAdd, Int.reduceSub, Int.reduceNeg, hp, e2, n2]
    have e1 : parBad l[i] = 0 := by rw [parBad, if_neg hb1, if_neg (by rw [hb2]; simp)]
    obtain ⟨k3, N3, hc3, B3, hk3, ed3⟩ := c_Builder_WriteString N2 k M.bl.length _ (32 :: l[i].name) (BN.grown g2) (by simp; omega)
    have hb : M.bl.length < N.bl.length := BN.lt
    have hkl : ∀ j, k = some j → j < N.bl.length := fun j hj => by subst hj; exact BN.ltk
    have hne : some N.bl.length ≠ k := fun e => by have := hkl _ e.symm; omega
    have R3 := ed3.row R2 (by omega) hne
    have gN3 : Grown m N3 := (ed3.stays (n0 := m.bl.length) (by omega) (by have := gN.le; omega) hk).grown (gN.trans g2) (Nat.le_refl _)
    have lN3 : m.bl.length ≤ N3.low := (ed3.stays (n0 := m.bl.length) (by omega) (by have := gN.le; omega) hk).2.1 n2
    have hk3' : ∀ j, k3 = some j → m.bl.length ≤ j := fun j hj => by
      rcases hk3 with e | ⟨_, e⟩
      · exact hk j (by rw [← e]; exact hj)
      · rw [e] at hj; cases hj; have := gN.le; omega
    have a1 : 1 + l[i].name.length ≤ 9223372036854775807 := by omega
    have a2 : 1 + l[i].value.length ≤ 9223372036854775807 := by omega
    cases hh : l[i].has with
    | false =>
      have ew : wrote (l.take (i + 1)) = wrote (l.take i) ++ (32 :: l[i].name) := by rw [wrote_next hlt, parW, if_neg (by simp [hh]), List.append_nil]
      simp +contextual only [vq, vc, ve, vv, vn, vl, ↓reduceIte, Nat.reduceEqDiff, Nat.reduceAdd, Nat.reduceMul, Nat.reduceSub, Nat.reduceLeDiff, Nat.reduceLT, Nat.reduceBEq, Nat.reduceBNe, reduceCtorEq, Int.reduceBEq, Int.reduceBNe, Int.reduceLT, Int.reduceLE, Int.reduceEq, Int.reduceToNat, Int.reduceAdd, Int.reduceSub, Int.reduceNeg, A4, R2.get (G := G), a1, callR_val hc3, R3.get (G := G), hh, A13, wsucc hlt (by omega)]
      refine again2 hJ (l.length - (i + 1)) (by omega) ⟨i + 1, _, N3, k3, rfl, gN3, lN3, rfl, by omega, by simp +contextual only [vq, vc, ve, vv, vn, vl, ↓reduceIte, Nat.reduceEqDiff, Nat.reduceAdd, Nat.reduceMul, Nat.reduceSub, Nat.reduceLeDiff, Nat.reduceLT, Nat.reduceBEq, Nat.reduceBNe, reduceCtorEq, Int.reduceBEq, Int.reduceBNe, Int.reduceLT, Int.reduceLE, Int.reduceEq, Int.reduceToNat, Int.reduceAdd, Int.reduceSub, Int.reduceNeg, A4], by simp +contextual only [vq, vc, ve, vv, vn, vl, ↓reduceIte, Nat.reduceEqDiff, Nat.reduceAdd, Nat.reduceMul, Nat.reduceSub, Nat.reduceLeDiff, Nat.reduceLT, Nat.reduceBEq, Nat.reduceBNe, reduceCtorEq, Int.reduceBEq, Int.reduceBNe, Int.reduceLT, Int.reduceLE, Int.reduceEq, Int.reduceToNat, Int.reduceAdd, Int.reduceSub, Int.reduceNeg, A11, q1], by simp +contextual only [vq, vc, ve, vv, vn, vl, ↓reduceIte, Nat.reduceEqDiff, Nat.reduceAdd, Nat.reduceMul, Nat.reduceSub, Nat.reduceLeDiff, Nat.reduceLT, Nat.reduceBEq, Nat.reduceBNe, reduceCtorEq, Int.reduceBEq, Int.reduceBNe, Int.reduceLT, Int.reduceLE, Int.reduceEq, Int.reduceToNat, Int.reduceAdd, Int.reduceSub, Int.reduceNeg, A12], by simp +contextual only [vq, vc, ve, vv, vn, vl, ↓reduceIte, Nat.reduceEqDiff, Nat.reduceAdd, Nat.reduceMul, Nat.reduceSub, Nat.reduceLeDiff, Nat.reduceLT, Nat.reduceBEq, Nat.reduceBNe, reduceCtorEq, Int.reduceBEq, Int.reduceBNe, Int.reduceLT, Int.reduceLE, Int.reduceEq, Int.reduceToNat, Int.reduceAdd, Int.reduceSub, Int.reduceNeg], by rw [ew]; exact B3, hk3', fun p hp => ?_⟩
      rw [List.take_succ_eq_append_getElem hlt] at hp
      rcases List.mem_append.1 hp with hp | hp
      · exact hok p hp
      · simp at hp; rw [hp]; exact e1
    | true =>
      have ew : wrote (l.take (i + 1)) = wrote (l.take i) ++ (32 :: l[i].name) ++ (61 :: l[i].value) := by rw [wrote_next hlt, parW, if_pos hh, List.append_assoc]
      obtain ⟨k4, N4, hc4, B4, hk4, ed4⟩ := c_Builder_WriteString N3 k3 M.bl.length _ (61 :: l[i].value) B3 (by simp; omega)
      have st4 := ed4.stays (n0 := m.bl.length) (by omega) gN3.le hk3'
      have hk4' : ∀ j, k4 = some j → m.bl.length ≤ j := fun j hj => by
        rcases hk4 with e | ⟨_, e⟩
        · exact hk3' j (by rw [← e]; exact hj)
        · rw [e] at hj; cases hj; exact gN3.le
      simp +contextual only [vq, vc, ve, vv, vn, vl, ↓reduceIte, Nat.reduceEqDiff, Nat.reduceAdd, Nat.reduceMul, Nat.reduceSub, Nat.reduceLeDiff, Nat.reduceLT, Nat.reduceBEq, Nat.reduceBNe, reduceCtorEq, Int.reduceBEq, Int.reduceBNe, Int.reduceLT, Int.reduceLE, Int.reduceEq, Int.reduceToNat, Int.reduceAdd, Int.reduceSub, Int.reduceNeg, A4, R2.get (G := G), a1, a2, callR_val hc3, R3.get (G := G), hh, callR_val hc4, A13, wsucc hlt (by omega)]
      refine again2 hJ (l.length - (i + 1)) (by omega) ⟨i + 1, _, N4, k4, rfl, st4.grown gN3 (Nat.le_refl _), st4.2.1 lN3, rfl, by omega, by simp +contextual only [vq, vc, ve, vv, vn, vl, ↓reduceIte, Nat.reduceEqDiff, Nat.reduceAdd, Nat.reduceMul, Nat.reduceSub, Nat.reduceLeDiff, Nat.reduceLT, Nat.reduceBEq, Nat.reduceBNe, reduceCtorEq, Int.reduceBEq, Int.reduceBNe, Int.reduceLT, Int.reduceLE, Int.reduceEq, Int.reduceToNat, Int.reduceAdd, Int.reduceSub, Int.reduceNeg, A4], by simp +contextual only [vq, vc, ve, vv, vn, vl, ↓reduceIte, Nat.reduceEqDiff, Nat.reduceAdd, Nat.reduceMul, Nat.reduceSub, Nat.reduceLeDiff, Nat.reduceLT, Nat.reduceBEq, Nat.reduceBNe, reduceCtorEq, Int.reduceBEq, Int.reduceBNe, Int.reduceLT, Int.reduceLE, Int.reduceEq, Int.reduceToNat, Int.reduceAdd, Int.reduceSub, Int.reduceNeg, A11, q1], by simp +contextual only [vq, vc, ve, vv, vn, vl, ↓reduceIte, Nat.reduceEqDiff, Nat.reduceAdd, Nat.reduceMul, Nat.reduceSub, Nat.reduceLeDiff, Nat.reduceLT, Nat.reduceBEq, Nat.reduceBNe, reduceCtorEq, Int.reduceBEq, Int.reduceBNe, Int.reduceLT, Int.reduceLE, Int.reduceEq, Int.reduceToNat, Int.reduceAdd, Int.reduceSub, Int.reduceNeg, A12], by simp +contextual only [vq, vc, ve, vv, vn, vl, ↓reduceIte, Nat.reduceEqDiff, Nat.reduceAdd, Nat.reduceMul, Nat.reduceSub, Nat.reduceLeDiff, Nat.reduceLT, Nat.reduceBEq, Nat.reduceBNe, reduceCtorEq, Int.reduceBEq, Int.reduceBNe, Int.reduceLT, Int.reduceLE, Int.reduceEq, Int.reduceToNat, Int.reduceAdd, Int.reduceSub, Int.reduceNeg], by rw [ew]; exact B4, hk4', fun p hp => ?_⟩
      rw [List.take_succ_eq_append_getElem hlt] at hp
      rcases List.mem_append.1 hp with hp | hp
      · exact hok p hp
      · simp at hp; rw [hp]; exact e1
  · have he : i = l.length := by omega
    subst he
    rw [List.take_length] at hok BN
    have e2 : prs l = (wrote l, 0) := prs_ok hok
    obtain ⟨N4, hc4, ed4⟩ := c_Builder_String N k M.bl.length (wrote l) BN (by have := wrote_len hN; omega)
    have st4 := (ed4.stays (n0 := m.bl.length) (by omega) gN.le hk).2.1 lN
    simp +contextual only [vq, vc, ve, vv, vn, vl, ↓reduceIte, Nat.reduceEqDiff, Nat.reduceAdd, Nat.reduceMul, Nat.reduceSub, Nat.reduceLeDiff, Nat.reduceLT, Nat.reduceBEq, Nat.reduceBNe, reduceCtorEq, Int.reduceBEq, Int.reduceBNe, Int.reduceLT, Int.reduceLE, Int.reduceEq, Int.reduceToNat, Int.reduceAdd, Int.reduceSub, Int.reduceNeg, A4, callR_val hc4, hp, e2, st4]
end Go.Proofs.YtmjoaiccbghijaaGreatDoor.paramAgain

namespace Go.Proofs.YtmjoaiccbghijaaGreatDoor.paramAgain
open Go.Ev hiding Comes
variable [GG]

theorem c_l10_same (m : Mem) (x y : EV) (k l : List Par) (hx : Pars G m x k) (hy : Pars G m y l) (hk : k.length ≤ 1000000000000) :
    Go.Ev.Comes T G f_l10_same [x, y] m none ⟨.val (.bool (decide (k = l))), m, none⟩ := by
  refine comes2 T_l10_same rfl fun M hg hlen hlow => ?_
  have hl0 : m.bl.length ≤ M.low := by omega
  have hx := hx.grown hg
  have hy := hy.grown hg
  obtain ⟨a1, c1, e1, s1⟩ := hx.slice
  obtain ⟨a2, c2, e2, s2⟩ := hy.slice
  simp only [F_l10_same]
  by_cases hne : k.length = l.length
  · simp +contextual only [vq, vc, ve, vv, vn, vl, ↓reduceIte, Nat.reduceEqDiff, Nat.reduceAdd, Nat.reduceMul, Nat.reduceSub, Nat.reduceLeDiff, Nat.reduceLT, Nat.reduceBEq, Nat.reduceBNe, reduceCtorEq, Int.reduceBEq, Int.reduceBNe, Int.reduceLT, Int.reduceLE, Int.reduceEq, Int.reduceToNat, Int.reduceAdd, Int.reduceSub, Int.reduceNeg, s1, s2, hne]
    have I : ∀ i : Nat, k.take i = l.take i → i < k.length → (hik : i < k.length) → (hil : i < l.length) → k[i] = l[i] → k.take (i + 1) = l.take (i + 1) := fun i h _ hik hil e => by
      rw [List.take_succ_eq_append_getElem hik, List.take_succ_eq_append_getElem hil, h, e]
    refine loop2 (fun n st => ∃ i A, st = ⟨A, M, [], none⟩ ∧ n = k.length - i ∧ i ≤ k.length ∧ A 0 = x ∧ A 1 = y ∧ A 12 = .int .i64 l.length ∧ A 13 = .int .i64 i ∧ k.take i = l.take i) k.length ⟨0, _, rfl, by omega, by omega, by simp +contextual only [vq, vc, ve, vv, vn, vl, ↓reduceIte, Nat.reduceEqDiff, Nat.reduceAdd, Nat.reduceMul, Nat.reduceSub, Nat.reduceLeDiff, Nat.reduceLT, Nat.reduceBEq, Nat.reduceBNe, reduceCtorEq, Int.reduceBEq, Int.reduceBNe, Int.reduceLT, Int.reduceLE, Int.reduceEq, Int.reduceToNat, Int.reduceAdd, Int.reduceSub, Int.reduceNeg, s1, hne], by simp +contextual only [vq, vc, ve, vv, vn, vl, ↓reduceIte, Nat.reduceEqDiff, Nat.reduceAdd, Nat.reduceMul, Nat.reduceSub, Nat.reduceLeDiff, Nat.reduceLT, Nat.reduceBEq, Nat.reduceBNe, reduceCtorEq, Int.reduceBEq, Int.reduceBNe, Int.reduceLT, Int.reduceLE, Int.reduceEq, Int.reduceToNat, Int.reduceAdd, Int.reduceSub, Int.reduceNeg, s2, hne], by simp +contextual only [vq, vc, ve, vv, vn, vl, ↓reduceIte, Nat.reduceEqDiff, Nat.reduceAdd, Nat.reduceMul, Nat.reduceSub, Nat.reduceLeDiff, Nat.reduceLT, Nat.reduceBEq, Nat.reduceBNe, reduceCtorEq, Int.reduceBEq, Int.reduceBNe, Int.reduceLT, Int.reduceLE, Int.reduceEq, Int.reduceToNat, Int.reduceAdd, Int.reduceSub, Int.reduceNeg, s1, hne], by simp +contextual only [vq, vc, ve, vv, vn, vl, ↓reduceIte, Nat.reduceEqDiff, Nat.reduceAdd, Nat.reduceMul, Nat.reduceSub, Nat.reduceLeDiff, Nat.reduceLT, Nat.reduceBEq, Nat.reduceBNe, reduceCtorEq, Int.reduceBEq, Int.reduceBNe, Int.reduceLT, Int.reduceLE, Int.reduceEq, Int.reduceToNat, Int.reduceAdd, Int.reduceSub, Int.reduceNeg]; rfl, by simp⟩ fun J hJ n st hI => ?_
    obtain ⟨i, A, rfl, rfl, hi, A0, A1, A12, A13, hall⟩ := hI
    by_cases hlt : i < k.length
    · have hil : i < l.length := by omega
      obtain ⟨b1, d1, q1, _, g1, o1⟩ := hx.at hlt
      obtain ⟨b2, d2, q2, _, g2, o2⟩ := hy.at hil
      rw [q1] at A0
      rw [q2] at A1
      simp +contextual only [vq, vc, ve, vv, vn, vl, ↓reduceIte, Nat.reduceEqDiff, Nat.reduceAdd, Nat.reduceMul, Nat.reduceSub, Nat.reduceLeDiff, Nat.reduceLT, Nat.reduceBEq, Nat.reduceBNe, reduceCtorEq, Int.reduceBEq, Int.reduceBNe, Int.reduceLT, Int.reduceLE, Int.reduceEq, Int.reduceToNat, Int.reduceAdd, Int.reduceSub, Int.reduceNeg, A0, A1, A12, A13, hlt, hil, g1, g2, o1, o2, par_eq]
      refine br2_mk (fun hp => ?_) (fun hp => ?_)
      · have hp : k[i] ≠ l[i] := by simpa using hp
        have e : decide (k = l) = false := by
          rw [decide_eq_false_iff_not]
          rintro rfl
          exact hp rfl
        simp +contextual only [vq, vc, ve, vv, vn, vl, ↓reduceIte, Nat.reduceEqDiff, Nat.reduceAdd, Nat.reduceMul, Nat.reduceSub, Nat.reduceLeDiff, Nat.reduceLT, Nat.reduceBEq, Nat.reduceBNe, reduceCtorEq, Int.reduceBEq, Int.reduceBNe, Int.reduceLT, Int.reduceLE, Int.reduceEq, Int.reduceToNat, Int.reduceAdd, Int.reduceSub, Int.reduceNeg, e, hl0]
      · have hp : k[i] = l[i] := by simpa using hp
        simp +contextual only [vq, vc, ve, vv, vn, vl, ↓reduceIte, Nat.reduceEqDiff, Nat.reduceAdd, Nat.reduceMul, Nat.reduceSub, Nat.reduceLeDiff, Nat.reduceLT, Nat.reduceBEq, Nat.reduceBNe, reduceCtorEq, Int.reduceBEq, Int.reduceBNe, Int.reduceLT, Int.reduceLE, Int.reduceEq, Int.reduceToNat, Int.reduceAdd, Int.reduceSub, Int.reduceNeg, A13, wsucc hlt (by omega)]
        exact again2 hJ (k.length - (i + 1)) (by omega) ⟨i + 1, _, rfl, rfl, by omega, by simp +contextual only [vq, vc, ve, vv, vn, vl, ↓reduceIte, Nat.reduceEqDiff, Nat.reduceAdd, Nat.reduceMul, Nat.reduceSub, Nat.reduceLeDiff, Nat.reduceLT, Nat.reduceBEq, Nat.reduceBNe, reduceCtorEq, Int.reduceBEq, Int.reduceBNe, Int.reduceLT, Int.reduceLE, Int.reduceEq, Int.reduceToNat, Int.reduceAdd, Int.reduceSub, Int.reduceNeg, A0, q1], by simp +contextual only [vq, vc, ve, vv, vn, vl, ↓reduceIte, Nat.reduceEqDiff, Nat.reduceAdd, Nat.reduceMul, Nat.reduceSub, Nat.reduceLeDiff, Nat.reduceLT, Nat.reduceBEq, Nat.reduceBNe, reduceCtorEq, Int.reduceBEq, Int.reduceBNe, Int.reduceLT, Int.reduceLE, Int.reduceEq, Int.reduceToNat, Int.reduceAdd, Int.reduceSub, Int.reduceNeg, A1, q2], by simp +contextual only [vq, vc, ve, vv, vn, vl, ↓reduceIte, Nat.reduceEqDiff, Nat.reduceAdd, Nat.reduceMul, Nat.reduceSub, Nat.reduceLeDiff, Nat.reduceLT, Nat.reduceBEq, Nat.reduceBNe, reduceCtorEq, Int.reduceBEq, Int.reduceBNe, Int.reduceLT, Int.reduceLE, Int.reduceEq, Int.reduceToNat, Int.reduceAdd, Int.reduceSub, Int.reduceNeg, A12], by simp +contextual only [vq, vc, ve, vv, vn, vl, ↓reduceIte, Nat.reduceEqDiff, Nat.reduceAdd, Nat.reduceMul, Nat.reduceSub, Nat.reduceLeDiff, Nat.reduceLT, Nat.reduceBEq, Nat.reduceBNe, reduceCtorEq, Int.reduceBEq, Int.reduceBNe, Int.reduceLT, Int.reduceLE, Int.reduceEq, Int.reduceToNat, Int.reduceAdd, Int.reduceSub, Int.reduceNeg], I i hall hlt hlt hil hp⟩
    · have he : i = k.length := by omega
      subst he
      rw [List.take_length, hne, List.take_length] at hall
      have e : decide (k = l) = true := by simpa using hall
      have hlt2 : ¬ k.length < l.length := by omega
      simp +contextual only [vq, vc, ve, vv, vn, vl, ↓reduceIte, Nat.reduceEqDiff, Nat.reduceAdd, Nat.reduceMul, Nat.reduceSub, Nat.reduceLeDiff, Nat.reduceLT, Nat.reduceBEq, Nat.reduceBNe, reduceCtorEq, Int.reduceBEq, Int.reduceBNe, Int.reduceLT, Int.reduceLE, Int.reduceEq, Int.reduceToNat, Int.reduceAdd, Int.reduceSub, Int.reduceNeg, A12, A13, hlt2, e, hl0]
  · have e : decide (k = l) = false := by
      rw [decide_eq_false_iff_not]
      rintro rfl
      exact hne rfl
    have k1 : (k.length != l.length) = true := by simpa using hne
    simp +contextual only [vq, vc, ve, vv, vn, vl, ↓reduceIte, Nat.reduceEqDiff, Nat.reduceAdd, Nat.reduceMul, Nat.reduceSub, Nat.reduceLeDiff, Nat.reduceLT, Nat.reduceBEq, Nat.reduceBNe, reduceCtorEq, Int.reduceBEq, Int.reduceBNe, Int.reduceLT, Int.reduceLE, Int.reduceEq, Int.reduceToNat, Int.reduceAdd, Int.reduceSub, Int.reduceNeg, s1, s2, k1, e, hl0]
end Go.Proofs.YtmjoaiccbghijaaGreatDoor.paramAgain

namespace Go.Proofs.YtmjoaiccbghijaaGreatDoor.paramAgain
open Go.Ev hiding Comes
variable [GG]

theorem c_octet_Same (m : Mem) (s t : List UInt8) (hN : s.length ≤ 1000000000000) : Go.Ev.Comes T G f_octet_Same [.str s, .str t] m none ⟨.val (.bool (sameU s t)), m, none⟩ := by
  refine comes2 T_octet_Same rfl fun M hg hlen hlow => ?_
  have hl : m.bl.length ≤ M.low := by omega
  simp only [F_octet_Same]
  by_cases hne : s.length = t.length
  · simp +contextual only [vq, vc, ve, vv, vn, vl, ↓reduceIte, Nat.reduceEqDiff, Nat.reduceAdd, Nat.reduceMul, Nat.reduceSub, Nat.reduceLeDiff, Nat.reduceLT, Nat.reduceBEq, Nat.reduceBNe, reduceCtorEq, Int.reduceBEq, Int.reduceBNe, Int.reduceLT, Int.reduceLE, Int.reduceEq, Int.reduceToNat, Int.reduceAdd, Int.reduceSub, Int.reduceNeg, hne]
    refine loop2 (fun n st => ∃ i A, st = ⟨A, M, [], none⟩ ∧ n = t.length - i ∧ i ≤ t.length ∧ A 0 = .str s ∧ A 1 = .str t ∧ A 12 = .int .i64 t.length ∧ A 13 = .int .i64 i ∧ upS (s.take i) = upS (t.take i)) t.length ⟨0, _, rfl, by omega, by omega, by simp +contextual only [vq, vc, ve, vv, vn, vl, ↓reduceIte, Nat.reduceEqDiff, Nat.reduceAdd, Nat.reduceMul, Nat.reduceSub, Nat.reduceLeDiff, Nat.reduceLT, Nat.reduceBEq, Nat.reduceBNe, reduceCtorEq, Int.reduceBEq, Int.reduceBNe, Int.reduceLT, Int.reduceLE, Int.reduceEq, Int.reduceToNat, Int.reduceAdd, Int.reduceSub, Int.reduceNeg], by simp +contextual only [vq, vc, ve, vv, vn, vl, ↓reduceIte, Nat.reduceEqDiff, Nat.reduceAdd, Nat.reduceMul, Nat.reduceSub, Nat.reduceLeDiff, Nat.reduceLT, Nat.reduceBEq, Nat.reduceBNe, reduceCtorEq, Int.reduceBEq, Int.reduceBNe, Int.reduceLT, Int.reduceLE, Int.reduceEq, Int.reduceToNat, Int.reduceAdd, Int.reduceSub, Int.reduceNeg], by simp +contextual only [vq, vc, ve, vv, vn, vl, ↓reduceIte, Nat.reduceEqDiff, Nat.reduceAdd, Nat.reduceMul, Nat.reduceSub, Nat.reduceLeDiff, Nat.reduceLT, Nat.reduceBEq, Nat.reduceBNe, reduceCtorEq, Int.reduceBEq, Int.reduceBNe, Int.reduceLT, Int.reduceLE, Int.reduceEq, Int.reduceToNat, Int.reduceAdd, Int.reduceSub, Int.reduceNeg, hne], by simp +contextual only [vq, vc, ve, vv, vn, vl, ↓reduceIte, Nat.reduceEqDiff, Nat.reduceAdd, Nat.reduceMul, Nat.reduceSub, Nat.reduceLeDiff, Nat.reduceLT, Nat.reduceBEq, Nat.reduceBNe, reduceCtorEq, Int.reduceBEq, Int.reduceBNe, Int.reduceLT, Int.reduceLE, Int.reduceEq, Int.reduceToNat, Int.reduceAdd, Int.reduceSub, Int.reduceNeg]; rfl, rfl⟩ fun J hJ n st hI => ?_
    obtain ⟨i, A, rfl, rfl, hi, A0, A1, A12, A13, hall⟩ := hI
    by_cases hlt : i < t.length
    · have his : i < s.length := by omega
      have hq : (((up s[i]).toNat : Int) != ((up t[i]).toNat : Int)) = !(up s[i] == up t[i]) := by simp only [bne, u8_eq]
      simp +contextual only [vq, vc, ve, vv, vn, vl, ↓reduceIte, Nat.reduceEqDiff, Nat.reduceAdd, Nat.reduceMul, Nat.reduceSub, Nat.reduceLeDiff, Nat.reduceLT, Nat.reduceBEq, Nat.reduceBNe, reduceCtorEq, Int.reduceBEq, Int.reduceBNe, Int.reduceLT, Int.reduceLE, Int.reduceEq, Int.reduceToNat, Int.reduceAdd, Int.reduceSub, Int.reduceNeg, A0, A1, A12, A13, hlt, get_byte hlt, get_byte his, callR_val (c_octet_upper _ _), hq]
      refine br2_mk (fun hp => ?_) (fun hp => ?_)
      · have hp : ¬ up s[i] = up t[i] := by simpa using hp
        have e : sameU s t = false := by
          unfold sameU
          rw [beq_eq_false_iff_ne]
          intro h
          apply hp
          have : (upS s)[i]? = (upS t)[i]? := by rw [h]
          simpa [upS, his, hlt] using this
        simp +contextual only [vq, vc, ve, vv, vn, vl, ↓reduceIte, Nat.reduceEqDiff, Nat.reduceAdd, Nat.reduceMul, Nat.reduceSub, Nat.reduceLeDiff, Nat.reduceLT, Nat.reduceBEq, Nat.reduceBNe, reduceCtorEq, Int.reduceBEq, Int.reduceBNe, Int.reduceLT, Int.reduceLE, Int.reduceEq, Int.reduceToNat, Int.reduceAdd, Int.reduceSub, Int.reduceNeg, e, hl]
      · have hp : up s[i] = up t[i] := by simpa using hp
        simp +contextual only [vq, vc, ve, vv, vn, vl, ↓reduceIte, Nat.reduceEqDiff, Nat.reduceAdd, Nat.reduceMul, Nat.reduceSub, Nat.reduceLeDiff, Nat.reduceLT, Nat.reduceBEq, Nat.reduceBNe, reduceCtorEq, Int.reduceBEq, Int.reduceBNe, Int.reduceLT, Int.reduceLE, Int.reduceEq, Int.reduceToNat, Int.reduceAdd, Int.reduceSub, Int.reduceNeg, A13, wsucc hlt (by omega)]
        refine again2 hJ (t.length - (i + 1)) (by omega) ⟨i + 1, _, rfl, rfl, by omega, by simp +contextual only [vq, vc, ve, vv, vn, vl, ↓reduceIte, Nat.reduceEqDiff, Nat.reduceAdd, Nat.reduceMul, Nat.reduceSub, Nat.reduceLeDiff, Nat.reduceLT, Nat.reduceBEq, Nat.reduceBNe, reduceCtorEq, Int.reduceBEq, Int.reduceBNe, Int.reduceLT, Int.reduceLE, Int.reduceEq, Int.reduceToNat, Int.reduceAdd, Int.reduceSub, Int.reduceNeg, A0], by simp +contextual only [vq, vc, ve, vv, vn, vl, ↓reduceIte, Nat.reduceEqDiff, Nat.reduceAdd, Nat.reduceMul, Nat.reduceSub, Nat.reduceLeDiff, Nat.reduceLT, Nat.reduceBEq, Nat.reduceBNe, reduceCtorEq, Int.reduceBEq, Int.reduceBNe, Int.reduceLT, Int.reduceLE, Int.reduceEq, Int.reduceToNat, Int.reduceAdd, Int.reduceSub, Int.reduceNeg, A1], by simp +contextual only [vq, vc, ve, vv, vn, vl, ↓reduceIte, Nat.reduceEqDiff, Nat.reduceAdd, Nat.reduceMul, Nat.reduceSub, Nat.reduceLeDiff, Nat.reduceLT, Nat.reduceBEq, Nat.reduceBNe, reduceCtorEq, Int.reduceBEq, Int.reduceBNe, Int.reduceLT, Int.reduceLE, Int.reduceEq, Int.reduceToNat, Int.reduceAdd, Int.reduceSub, Int.reduceNeg, A12], by simp +contextual only [vq, vc, ve, vv, vn, vl, ↓reduceIte, Nat.reduceEqDiff, Nat.reduceAdd, Nat.reduceMul, Nat.reduceSub, Nat.reduceLeDiff, Nat.reduceLT, Nat.reduceBEq, Nat.reduceBNe, reduceCtorEq, Int.reduceBEq, Int.reduceBNe, Int.reduceLT, Int.reduceLE, Int.reduceEq, Int.reduceToNat, Int.reduceAdd, Int.reduceSub, Int.reduceNeg], ?_⟩
        rw [List.take_succ_eq_append_getElem hlt, List.take_succ_eq_append_getElem his]
        simp only [upS, List.map_append, List.map_cons, List.map_nil] at hall ⊢
        rw [hall, hp]
    · have he : i = t.length := by omega
      subst he
      rw [List.take_length, ← hne, List.take_length] at hall
      have e : sameU s t = true := by simp [sameU, hall]
      simp +contextual only [vq, vc, ve, vv, vn, vl, ↓reduceIte, Nat.reduceEqDiff, Nat.reduceAdd, Nat.reduceMul, Nat.reduceSub, Nat.reduceLeDiff, Nat.reduceLT, Nat.reduceBEq, Nat.reduceBNe, reduceCtorEq, Int.reduceBEq, Int.reduceBNe, Int.reduceLT, Int.reduceLE, Int.reduceEq, Int.reduceToNat, Int.reduceAdd, Int.reduceSub, Int.reduceNeg, A12, A13, e, hl]
  · have e : sameU s t = false := by
      unfold sameU
      rw [beq_eq_false_iff_ne]
      intro h
      apply hne
      have := congrArg List.length h
      simpa [upS] using this
    have k1 : (s.length != t.length) = true := by simpa using hne
    simp +contextual only [vq, vc, ve, vv, vn, vl, ↓reduceIte, Nat.reduceEqDiff, Nat.reduceAdd, Nat.reduceMul, Nat.reduceSub, Nat.reduceLeDiff, Nat.reduceLT, Nat.reduceBEq, Nat.reduceBNe, reduceCtorEq, Int.reduceBEq, Int.reduceBNe, Int.reduceLT, Int.reduceLE, Int.reduceEq, Int.reduceToNat, Int.reduceAdd, Int.reduceSub, Int.reduceNeg, k1, e, hl]
end Go.Proofs.YtmjoaiccbghijaaGreatDoor.paramAgain

namespace Go.Proofs.YtmjoaiccbghijaaGreatDoor.paramAgain
open Go.Ev hiding Comes
open Go.Ev (FitsO OrcOk OrcRun GPlain)

theorem mixW : Tryz.prog.follows .mixedOrders = true := by kernel_rfl
theorem fitsW : FitsO Tryz.prog Tg := fun _ _ h => .inl h
theorem orcW (base : Nat) (w0 : World) : OrcOk Tryz.prog Tg tabG base w0 := by
  intro f ef o args m v j w vs hf hp ho hm hv
  exact absurd hp (getF_num hf)
theorem gplain : GPlain tabG := by
  intro g cs h
  unfold tabG at h
  split at h
  · cases h; exact (show tabRow.all plainV = true by kernel_rfl)
  · cases h
def isYes : Option CR → Bool
  | some ⟨.val (.bool true), _, _⟩ => true
  | _ => false
theorem isYes_spec {r : Option CR} (h : isYes r = true) : ∃ m p, r = some ⟨.val (.bool true), m, p⟩ := by
  unfold isYes at h
  split at h
  · exact ⟨_, _, rfl⟩
  · cases h
theorem run : isYes (evFunL Tg tabG 3000 f_l10_wakes [] ⟨[], 0⟩ none) = true := by kernel_rfl
theorem known : OrcRun Tg tabG f_l10_wakes yes0 := by
  intro args v h
  unfold yes0 at h
  split at h
  · cases h
    obtain ⟨m, p, e⟩ := isYes_spec run
    exact ⟨rfl, rfl, m, p, comes_of_run e⟩
  · cases h
theorem fitsT : FitsO Tryz.prog T := by
  intro f ef h
  unfold T at h
  split at h
  · cases h; exact .inr ⟨_, rfl⟩
  · exact .inl h
theorem tW : ∃ ef, Tg f_l10_wakes = some ef ∧ ef.prim = none := by
  obtain ⟨ef, hef⟩ : ∃ ef, Tg f_l10_wakes = some ef := Option.isSome_iff_exists.1 (show (Tg f_l10_wakes).isSome = true by kernel_rfl)
  refine ⟨ef, hef, ?_⟩
  have : (Tg f_l10_wakes).bind (·.prim) = none := by kernel_rfl
  rw [hef] at this
  exact this
theorem orcT (base : Nat) (w0 : World) : OrcOk Tryz.prog T tabG base w0 := by
  intro f ef o args m v j w vs hf hp ho hm hv
  unfold T at hf
  split at hf
  · rename_i h4
    cases hf
    cases hp
    obtain ⟨e4, he4, hp4⟩ := tW
    have h4 : f = f_l10_wakes := h4
    subst h4
    exact orc_run mixW fitsW gplain orcW he4 hp4 known ho hm hv
  · exact absurd hp (getF_num hf)
/-- What the law's first call comes to. -/
theorem c_l10_wakes [GG] (m : Mem) : Go.Ev.Comes T G f_l10_wakes [] m none ⟨.val (.bool true), m, none⟩ := ⟨1, rfl⟩
end Go.Proofs.YtmjoaiccbghijaaGreatDoor.paramAgain

namespace Go.Proofs.YtmjoaiccbghijaaGreatDoor.paramAgain
open Go.Ev hiding Comes
variable [GG]

theorem pair_eq (a b : Int) : eqCells [2, 2] [.int .i64 a, .int .i64 b] [.int .i64 a, .int .i64 b] = some true := by simp [eqCells, eqCell]
theorem pair_eq2 (a b c d : Int) : eqCells [2, 2] [.int .i64 a, .int .i64 b] [.int .i64 c, .int .i64 d] = some (a == c && (b == d)) := by simp [eqCells, eqCell]
theorem law (m : Mem) (s : List UInt8) (w : Bool) (hs : s.length ≤ 2000000) : Go.Ev.Comes T G f_l10_ParamAgain [.str s, .bool w] m none ⟨.val (.bool true), m, none⟩ := by
  refine comes2 T_l10_ParamAgain rfl fun M hg hlen hlow => ?_
  have hl0 : m.bl.length ≤ M.low := by omega
  obtain ⟨_, hc5, v5, M1, k5, rfl, g1, l1, q5, _⟩ := c_param_Parse M s w (by omega)
  have herr := parse_err (w := w) (s := s) (s.length + 1) 0 [] (by omega)
  have hinv := fun l => parse_inv (w := w) (s := s) (s.length + 1) 0 [] l (by omega) (by omega) (by simp)
  have hlater := parse_later (w := w) [32, 88] s (s.length + 1) 0 [⟨[88], [], false⟩] [] rfl (by simp)
  have h10 := fun K => c_r10_Parse K s w (by omega)
  unfold ParseR at h10
  generalize hres : parseS w s (s.length + 1) 0 [] = res at hc5 q5 herr hinv hlater h10
  obtain ⟨l, e, a⟩ := res
  simp only at hc5 q5 herr hlater h10
  simp only [F_l10_ParamAgain]
  simp +contextual only [vq, vc, ve, vv, vn, vl, ↓reduceIte, Nat.reduceEqDiff, Nat.reduceAdd, Nat.reduceMul, Nat.reduceSub, Nat.reduceLeDiff, Nat.reduceLT, Nat.reduceBEq, Nat.reduceBNe, reduceCtorEq, Int.reduceBEq, Int.reduceBNe, Int.reduceLT, Int.reduceLE, Int.reduceEq, Int.reduceToNat, Int.reduceAdd, Int.reduceSub, Int.reduceNeg, callR_val (c_l10_wakes M), callR_val hc5]
  refine new_mk fun M2 e2 => ?_
  obtain ⟨M3, w3, R6, g3, l3⟩ := pair_store (a := .int .i64 e) (b := .int .i64 a) e2
  obtain ⟨_, hc7, v7, M4, k7, rfl, g4, l4, q7, _⟩ := h10 M3
  simp +contextual only [vq, vc, ve, vv, vn, vl, ↓reduceIte, Nat.reduceEqDiff, Nat.reduceAdd, Nat.reduceMul, Nat.reduceSub, Nat.reduceLeDiff, Nat.reduceLT, Nat.reduceBEq, Nat.reduceBNe, reduceCtorEq, Int.reduceBEq, Int.reduceBNe, Int.reduceLT, Int.reduceLE, Int.reduceEq, Int.reduceToNat, Int.reduceAdd, Int.reduceSub, Int.reduceNeg, w3, callR_val hc7]
  refine new_mk fun M5 e5 => ?_
  obtain ⟨M6, w6, R8, g6, l6⟩ := pair_store (a := .int .i64 e) (b := .int .i64 a) e5
  have hle0 := hg.le
  have hle1 := g1.le
  have hle3 := g3.le
  have hle4 := g4.le
  have hle6 := g6.le
  have R6' := R6.grown (g4.trans g6)
  have gA := (g3.trans g4).trans g6
  have q5' := q5.grown gA
  have lM6 : m.bl.length ≤ M6.low := by omega
  obtain ⟨sa, sc, se, sv⟩ := q5.slice
  have lv : lnbE v5 = some (.int .i64 l.length) := by rw [sv]; rfl
  by_cases he : e = 0
  · subst he
    have ha : a = 0 := by
      rcases herr with ⟨_, h⟩ | ⟨_, h, _⟩
      · exact h
      · omega
    subst ha
    obtain ⟨l', e1, h16, hb, hlenw, hup⟩ := hinv l rfl
    rw [List.nil_append] at e1
    subst e1
    rw [Nat.sub_zero] at hlenw
    rw [List.drop_zero] at hup
    have hnv : ParsOk l := fun p hp => by
      have h1 : (parW p).length ≤ (wrote l).length := by
        obtain ⟨u1, u2, rfl⟩ := List.append_of_mem hp
        simp only [wrote, List.flatMap_append, List.flatMap_cons, List.length_append]
        omega
      have h2 : p.name.length ≤ (parW p).length := by simp [parW]; omega
      have h3 : p.value.length ≤ (parW p).length ∨ p.value = [] := by
        cases hh : p.has with
        | true => exact .inl (by simp [parW, hh]; omega)
        | false => exact .inr ((parBad_0 (hb p hp).1).2.2.2.2 hh)
      rcases h3 with h3 | h3
      · omega
      · rw [h3]; simp; omega
    have hP := c_param_Print M6 v5 l (priv_pars q5') hnv
    have hpr : printP l = (wrote l, 0) := by
      unfold printP
      rw [if_neg (by omega), prs_ok fun p hp => (hb p hp).1]
    rw [hpr] at hP
    simp only at hP
    have hpt : parseS w (wrote l) ((wrote l).length + 1) 0 [] = (l, 0, 0) := by
      have := parse_wrote (w := w) (s := wrote l) l ((wrote l).length + 1) 0 [] (by simp) (fun p hp => (hb p hp).1) (by simpa using h16) (by omega) (fun p hp => (hb p hp).2)
      simpa using this
    obtain ⟨_, hc9, v9, M7, k9, rfl, g7, l7, q9, _⟩ := c_param_Parse M6 (wrote l) w (by omega)
    rw [hpt] at hc9 q9
    simp only at hc9 q9
    have hle7 := g7.le
    have R6'' := R6'.get (G := G) 0
    simp only [List.getElem?_cons_zero] at R6''
    have z0 : ((0 : Int) == 0) = true := rfl
    simp +contextual only [vq, vc, ve, vv, vn, vl, ↓reduceIte, Nat.reduceEqDiff, Nat.reduceAdd, Nat.reduceMul, Nat.reduceSub, Nat.reduceLeDiff, Nat.reduceLT, Nat.reduceBEq, Nat.reduceBNe, reduceCtorEq, Int.reduceBEq, Int.reduceBNe, Int.reduceLT, Int.reduceLE, Int.reduceEq, Int.reduceToNat, Int.reduceAdd, Int.reduceSub, Int.reduceNeg, w6, R6'.getN (G := G), R8.getN (G := G), R6'.get (G := G), pair_eq, callR_val hP, callR_val hc9]
    refine new_mk fun M8 e8 => ?_
    obtain ⟨M9, w9, R12, g9, l9⟩ := pair_store (a := .int .i64 0) (b := .int .i64 0) e8
    have hle9 := g9.le
    have R6b := R6'.grown (g7.trans g9)
    have hsame : sameU (wrote l) s = true := by simp [sameU, hup]
    have hS := c_octet_Same M9 (wrote l) s (by omega)
    rw [hsame] at hS
    have hS9 := c_l10_same M9 v9 v5 l l (priv_pars (q9.grown g9)) (priv_pars (q5'.grown (g7.trans g9))) (by omega)
    rw [decide_eq_true rfl] at hS9
    have zl : ((wrote l).length == s.length) = true := by rw [beq_iff_eq]; exact hlenw
    have k16 : ((l.length : Int) ≤ 16) = True := eq_true (by omega)
    have lM9 : m.bl.length ≤ M9.low := by omega
    simp +contextual only [vq, vc, ve, vv, vn, vl, ↓reduceIte, Nat.reduceEqDiff, Nat.reduceAdd, Nat.reduceMul, Nat.reduceSub, Nat.reduceLeDiff, Nat.reduceLT, Nat.reduceBEq, Nat.reduceBNe, reduceCtorEq, Int.reduceBEq, Int.reduceBNe, Int.reduceLT, Int.reduceLE, Int.reduceEq, Int.reduceToNat, Int.reduceAdd, Int.reduceSub, Int.reduceNeg, w9, R6b.get (G := G), R6b.getN (G := G), R12.getN (G := G), zl, callR_val hS, pair_eq, callR_val hS9, lv, k16, lM9]
  · obtain ⟨hle, hcode, ha0, hal⟩ : l = [] ∧ (e = 100 ∨ e = 101 ∨ e = 4) ∧ 0 ≤ a ∧ a ≤ s.length := by
      rcases herr with ⟨h, _⟩ | h
      · exact absurd h he
      · exact h
    subst hle
    have ze : (e == 0) = false := by simpa using he
    obtain ⟨_, hcL, vL, M7, kL, rfl, g7, l7, qL, _⟩ := c_param_Parse M6 ([32, 88] ++ s) w (by simp; omega)
    have hle7 := g7.le
    -- what is read behind another parameter
    have hlt : s[0]? = some 32 → parseS w ([32, 88] ++ s) (([32, 88] ++ s).length + 1) 0 [] = parseS w ([32, 88] ++ s) (s.length + 1) 2 [⟨[88], [], false⟩] := fun h0 => by
      have h0l := (List.getElem?_eq_some_iff.1 h0).1
      have hD : ([32, 88] ++ s).drop 0 = parW ⟨[88], [], false⟩ ++ s := rfl
      have := parse_step (w := w) (f := ([32, 88] ++ s).length) (acc := []) hD (.inr ⟨s.drop 1, by
        have := List.drop_eq_getElem_cons h0l
        rw [List.drop_zero] at this
        rw [List.getElem?_eq_getElem h0l] at h0
        rw [Option.some.inj h0] at this
        exact this⟩) (by decide +kernel) (by simp)
      rw [this, if_neg (by simp)]
      exact parse_fuel _ _ _ _ (by simp [parW] <;> omega) (by simp [parW] <;> omega)
    have hfst : s[0]? ≠ some 32 → e = 100 ∧ a = 0 := fun h0 => by
      rw [parseS] at hres
      by_cases hz : 0 < s.length
      · rw [if_pos hz, if_pos h0] at hres
        simp only [Prod.mk.injEq] at hres
        exact ⟨hres.2.1.symm, hres.2.2.symm⟩
      · rw [if_neg hz] at hres
        simp only [Prod.mk.injEq] at hres
        exact absurd hres.2.1.symm he
    generalize hresL : parseS w ([32, 88] ++ s) (([32, 88] ++ s).length + 1) 0 [] = resL at hcL qL hlt
    obtain ⟨lL, eL, aL⟩ := resL
    simp only at hcL qL
    have hgoal : (eL = e ∧ aL = a + 2 ∧ eL ≠ 0) ∨ (¬ (eL = e ∧ aL = a + 2 ∧ eL ≠ 0) ∧ (e = 4 ∨ eL = 4 ∨ (e = 100 ∧ a = 0))) := by
      by_cases h0 : s[0]? = some 32
      · have h1 := hlt h0
        have h2 := hlater he
        simp only [List.length_cons, List.length_nil, Nat.zero_add, Nat.add_zero, Nat.reduceAdd] at h2
        rw [← h1] at h2
        simp only at h2
        by_cases hq : eL = e ∧ aL = a + 2 ∧ eL ≠ 0
        · exact .inl hq
        · refine .inr ⟨hq, ?_⟩
          rcases h2 with h | h | ⟨h, h'⟩
          · exact .inl h
          · exact .inr (.inl h)
          · exact absurd ⟨h, by simpa using h', by rw [h]; exact he⟩ hq
      · obtain ⟨h1, h2⟩ := hfst h0
        by_cases hq : eL = e ∧ aL = a + 2 ∧ eL ≠ 0
        · exact .inl hq
        · exact .inr ⟨hq, .inr (.inr ⟨h1, h2⟩)⟩
    have hcat : 2 + s.length ≤ 9223372036854775807 := by omega
    have z1 : (a < 0) = False := eq_false (by omega)
    have z2 : ((s.length : Int) < a) = False := eq_false (by omega)
    have z3 : ((0 : Int) < ((([] : List Par).length : Nat) : Int)) = False := eq_false (by simp)
    have hwA : IntKind.i64.wrap (a + 2) = a + 2 := wrap64 (by omega) (by omega)
    simp only [List.length_nil] at lv
    have hcL : Go.Ev.Comes T G f_param_Parse [.str (32 :: 88 :: s), .bool w] M6 none ⟨.val (.tuple [vL, .agg [.int .i64 eL, .int .i64 aL]]), M7, none⟩ := hcL
    have z4 : (4 : Int) = 4 := rfl
    have z5 : (100 : Int) = 100 := rfl
    rcases hcode with rfl | rfl | rfl
    · simp +contextual only [vq, vc, ve, vv, vn, vl, ↓reduceIte, Nat.reduceEqDiff, Nat.reduceAdd, Nat.reduceMul, Nat.reduceSub, Nat.reduceLeDiff, Nat.reduceLT, Nat.reduceBEq, Nat.reduceBNe, reduceCtorEq, Int.reduceBEq, Int.reduceBNe, Int.reduceLT, Int.reduceLE, Int.reduceEq, Int.reduceToNat, Int.reduceAdd, Int.reduceSub, Int.reduceNeg, w6, R6'.getN (G := G), R8.getN (G := G), R6'.get (G := G), pair_eq, lv, z1, z2, hcat, callR_val hcL]
      refine new_mk fun M8 e8 => ?_
      obtain ⟨M9, w9, R12, g9, l9⟩ := pair_store (a := .int .i64 eL) (b := .int .i64 aL) e8
      have hle9 := g9.le
      have R6b := R6'.grown (g7.trans g9)
      have lM9 : m.bl.length ≤ M9.low := by omega
      cases hb1 : (eL != 0) with
      | false =>
        have hor : (100 : Int) = 4 ∨ eL = 4 ∨ (100 : Int) = 100 ∧ a = 0 := by
          rcases hgoal with ⟨_, _, h⟩ | ⟨_, h⟩
          · exact absurd (by simpa using hb1) h
          · exact h
        cases hb4 : (eL == 4) with
        | true => simp +contextual only [vq, vc, ve, vv, vn, vl, ↓reduceIte, Nat.reduceEqDiff, Nat.reduceAdd, Nat.reduceMul, Nat.reduceSub, Nat.reduceLeDiff, Nat.reduceLT, Nat.reduceBEq, Nat.reduceBNe, reduceCtorEq, Int.reduceBEq, Int.reduceBNe, Int.reduceLT, Int.reduceLE, Int.reduceEq, Int.reduceToNat, Int.reduceAdd, Int.reduceSub, Int.reduceNeg, w9, R6b.get (G := G), R6b.getN (G := G), R12.get (G := G), hwA, z4, z5, hb1, hb4, lM9]
        | false =>
          have ha : a = 0 := by
            rcases hor with h | h | h
            · omega
            · subst h; simp at hb4
            · exact h.2
          subst ha
          simp +contextual only [vq, vc, ve, vv, vn, vl, ↓reduceIte, Nat.reduceEqDiff, Nat.reduceAdd, Nat.reduceMul, Nat.reduceSub, Nat.reduceLeDiff, Nat.reduceLT, Nat.reduceBEq, Nat.reduceBNe, reduceCtorEq, Int.reduceBEq, Int.reduceBNe, Int.reduceLT, Int.reduceLE, Int.reduceEq, Int.reduceToNat, Int.reduceAdd, Int.reduceSub, Int.reduceNeg, w9, R6b.get (G := G), R6b.getN (G := G), R12.get (G := G), hwA, z4, z5, hb1, hb4, pair_eq, lM9]
      | true =>
        cases hb2 : (eL == 100) with
        | false =>
          have hor : (100 : Int) = 4 ∨ eL = 4 ∨ (100 : Int) = 100 ∧ a = 0 := by
            rcases hgoal with ⟨h, _, _⟩ | ⟨_, h⟩
            · rw [h] at hb2; simp at hb2
            · exact h
          cases hb4 : (eL == 4) with
          | true => simp +contextual only [vq, vc, ve, vv, vn, vl, ↓reduceIte, Nat.reduceEqDiff, Nat.reduceAdd, Nat.reduceMul, Nat.reduceSub, Nat.reduceLeDiff, Nat.reduceLT, Nat.reduceBEq, Nat.reduceBNe, reduceCtorEq, Int.reduceBEq, Int.reduceBNe, Int.reduceLT, Int.reduceLE, Int.reduceEq, Int.reduceToNat, Int.reduceAdd, Int.reduceSub, Int.reduceNeg, w9, R6b.get (G := G), R6b.getN (G := G), R12.get (G := G), hwA, z4, z5, hb1, hb2, hb4, lM9]
          | false =>
            have ha : a = 0 := by
              rcases hor with h | h | h
              · omega
              · subst h; simp at hb4
              · exact h.2
            subst ha
            simp +contextual only [vq, vc, ve, vv, vn, vl, ↓reduceIte, Nat.reduceEqDiff, Nat.reduceAdd, Nat.reduceMul, Nat.reduceSub, Nat.reduceLeDiff, Nat.reduceLT, Nat.reduceBEq, Nat.reduceBNe, reduceCtorEq, Int.reduceBEq, Int.reduceBNe, Int.reduceLT, Int.reduceLE, Int.reduceEq, Int.reduceToNat, Int.reduceAdd, Int.reduceSub, Int.reduceNeg, w9, R6b.get (G := G), R6b.getN (G := G), R12.get (G := G), hwA, z4, z5, hb1, hb2, hb4, pair_eq, lM9]
        | true =>
          cases hb3 : (aL == a + 2) with
          | false =>
            have hor : (100 : Int) = 4 ∨ eL = 4 ∨ (100 : Int) = 100 ∧ a = 0 := by
              rcases hgoal with ⟨_, h, _⟩ | ⟨_, h⟩
              · rw [h] at hb3; simp at hb3
              · exact h
            cases hb4 : (eL == 4) with
            | true => simp +contextual only [vq, vc, ve, vv, vn, vl, ↓reduceIte, Nat.reduceEqDiff, Nat.reduceAdd, Nat.reduceMul, Nat.reduceSub, Nat.reduceLeDiff, Nat.reduceLT, Nat.reduceBEq, Nat.reduceBNe, reduceCtorEq, Int.reduceBEq, Int.reduceBNe, Int.reduceLT, Int.reduceLE, Int.reduceEq, Int.reduceToNat, Int.reduceAdd, Int.reduceSub, Int.reduceNeg, w9, R6b.get (G := G), R6b.getN (G := G), R12.get (G := G), hwA, z4, z5, hb1, hb2, hb3, hb4, lM9]
            | false =>
              have ha : a = 0 := by
                rcases hor with h | h | h
                · omega
                · subst h; simp at hb4
                · exact h.2
              subst ha
              have hb3z : (aL == 2) = false := hb3
              have hwz : IntKind.i64.wrap 2 = 2 := rfl
              simp +contextual only [vq, vc, ve, vv, vn, vl, ↓reduceIte, Nat.reduceEqDiff, Nat.reduceAdd, Nat.reduceMul, Nat.reduceSub, Nat.reduceLeDiff, Nat.reduceLT, Nat.reduceBEq, Nat.reduceBNe, reduceCtorEq, Int.reduceBEq, Int.reduceBNe, Int.reduceLT, Int.reduceLE, Int.reduceEq, Int.reduceToNat, Int.reduceAdd, Int.reduceSub, Int.reduceNeg, w9, R6b.get (G := G), R6b.getN (G := G), R12.get (G := G), hwA, z4, z5, hb1, hb2, hb4, pair_eq, hb3z, hwz, lM9]
          | true => simp +contextual only [vq, vc, ve, vv, vn, vl, ↓reduceIte, Nat.reduceEqDiff, Nat.reduceAdd, Nat.reduceMul, Nat.reduceSub, Nat.reduceLeDiff, Nat.reduceLT, Nat.reduceBEq, Nat.reduceBNe, reduceCtorEq, Int.reduceBEq, Int.reduceBNe, Int.reduceLT, Int.reduceLE, Int.reduceEq, Int.reduceToNat, Int.reduceAdd, Int.reduceSub, Int.reduceNeg, w9, R6b.get (G := G), R6b.getN (G := G), R12.get (G := G), hwA, hb1, hb2, hb3, lM9]
    · simp +contextual only [vq, vc, ve, vv, vn, vl, ↓reduceIte, Nat.reduceEqDiff, Nat.reduceAdd, Nat.reduceMul, Nat.reduceSub, Nat.reduceLeDiff, Nat.reduceLT, Nat.reduceBEq, Nat.reduceBNe, reduceCtorEq, Int.reduceBEq, Int.reduceBNe, Int.reduceLT, Int.reduceLE, Int.reduceEq, Int.reduceToNat, Int.reduceAdd, Int.reduceSub, Int.reduceNeg, w6, R6'.getN (G := G), R8.getN (G := G), R6'.get (G := G), pair_eq, lv, z1, z2, hcat, callR_val hcL]
      refine new_mk fun M8 e8 => ?_
      obtain ⟨M9, w9, R12, g9, l9⟩ := pair_store (a := .int .i64 eL) (b := .int .i64 aL) e8
      have hle9 := g9.le
      have R6b := R6'.grown (g7.trans g9)
      have lM9 : m.bl.length ≤ M9.low := by omega
      cases hb1 : (eL != 0) with
      | false =>
        have hor : (101 : Int) = 4 ∨ eL = 4 ∨ (101 : Int) = 100 ∧ a = 0 := by
          rcases hgoal with ⟨_, _, h⟩ | ⟨_, h⟩
          · exact absurd (by simpa using hb1) h
          · exact h
        have h4 : eL = 4 := by
          rcases hor with h | h | h
          · omega
          · exact h
          · omega
        subst h4
        simp +contextual only [vq, vc, ve, vv, vn, vl, ↓reduceIte, Nat.reduceEqDiff, Nat.reduceAdd, Nat.reduceMul, Nat.reduceSub, Nat.reduceLeDiff, Nat.reduceLT, Nat.reduceBEq, Nat.reduceBNe, reduceCtorEq, Int.reduceBEq, Int.reduceBNe, Int.reduceLT, Int.reduceLE, Int.reduceEq, Int.reduceToNat, Int.reduceAdd, Int.reduceSub, Int.reduceNeg, w9, R6b.get (G := G), R6b.getN (G := G), R12.get (G := G), hwA, z4, z5, hb1, lM9]
      | true =>
        cases hb2 : (eL == 101) with
        | false =>
          have hor : (101 : Int) = 4 ∨ eL = 4 ∨ (101 : Int) = 100 ∧ a = 0 := by
            rcases hgoal with ⟨h, _, _⟩ | ⟨_, h⟩
            · rw [h] at hb2; simp at hb2
            · exact h
          have h4 : eL = 4 := by
            rcases hor with h | h | h
            · omega
            · exact h
            · omega
          subst h4
          simp +contextual only [vq, vc, ve, vv, vn, vl, ↓reduceIte, Nat.reduceEqDiff, Nat.reduceAdd, Nat.reduceMul, Nat.reduceSub, Nat.reduceLeDiff, Nat.reduceLT, Nat.reduceBEq, Nat.reduceBNe, reduceCtorEq, Int.reduceBEq, Int.reduceBNe, Int.reduceLT, Int.reduceLE, Int.reduceEq, Int.reduceToNat, Int.reduceAdd, Int.reduceSub, Int.reduceNeg, w9, R6b.get (G := G), R6b.getN (G := G), R12.get (G := G), hwA, z4, z5, hb1, hb2, lM9]
        | true =>
          cases hb3 : (aL == a + 2) with
          | false =>
            have hor : (101 : Int) = 4 ∨ eL = 4 ∨ (101 : Int) = 100 ∧ a = 0 := by
              rcases hgoal with ⟨_, h, _⟩ | ⟨_, h⟩
              · rw [h] at hb3; simp at hb3
              · exact h
            have h4 : eL = 4 := by
              rcases hor with h | h | h
              · omega
              · exact h
              · omega
            subst h4
            simp +contextual only [vq, vc, ve, vv, vn, vl, ↓reduceIte, Nat.reduceEqDiff, Nat.reduceAdd, Nat.reduceMul, Nat.reduceSub, Nat.reduceLeDiff, Nat.reduceLT, Nat.reduceBEq, Nat.reduceBNe, reduceCtorEq, Int.reduceBEq, Int.reduceBNe, Int.reduceLT, Int.reduceLE, Int.reduceEq, Int.reduceToNat, Int.reduceAdd, Int.reduceSub, Int.reduceNeg, w9, R6b.get (G := G), R6b.getN (G := G), R12.get (G := G), hwA, z4, z5, hb1, hb2, hb3, lM9]
          | true => simp +contextual only [vq, vc, ve, vv, vn, vl, ↓reduceIte, Nat.reduceEqDiff, Nat.reduceAdd, Nat.reduceMul, Nat.reduceSub, Nat.reduceLeDiff, Nat.reduceLT, Nat.reduceBEq, Nat.reduceBNe, reduceCtorEq, Int.reduceBEq, Int.reduceBNe, Int.reduceLT, Int.reduceLE, Int.reduceEq, Int.reduceToNat, Int.reduceAdd, Int.reduceSub, Int.reduceNeg, w9, R6b.get (G := G), R6b.getN (G := G), R12.get (G := G), hwA, hb1, hb2, hb3, lM9]
    · simp +contextual only [vq, vc, ve, vv, vn, vl, ↓reduceIte, Nat.reduceEqDiff, Nat.reduceAdd, Nat.reduceMul, Nat.reduceSub, Nat.reduceLeDiff, Nat.reduceLT, Nat.reduceBEq, Nat.reduceBNe, reduceCtorEq, Int.reduceBEq, Int.reduceBNe, Int.reduceLT, Int.reduceLE, Int.reduceEq, Int.reduceToNat, Int.reduceAdd, Int.reduceSub, Int.reduceNeg, w6, R6'.getN (G := G), R8.getN (G := G), R6'.get (G := G), pair_eq, lv, z1, z2, hcat, callR_val hcL]
      refine new_mk fun M8 e8 => ?_
      obtain ⟨M9, w9, R12, g9, l9⟩ := pair_store (a := .int .i64 eL) (b := .int .i64 aL) e8
      have hle9 := g9.le
      have R6b := R6'.grown (g7.trans g9)
      have lM9 : m.bl.length ≤ M9.low := by omega
      cases hb1 : (eL != 0) with
      | false =>
        have hor : (4 : Int) = 4 ∨ eL = 4 ∨ (4 : Int) = 100 ∧ a = 0 := by
          rcases hgoal with ⟨_, _, h⟩ | ⟨_, h⟩
          · exact absurd (by simpa using hb1) h
          · exact h
        simp +contextual only [vq, vc, ve, vv, vn, vl, ↓reduceIte, Nat.reduceEqDiff, Nat.reduceAdd, Nat.reduceMul, Nat.reduceSub, Nat.reduceLeDiff, Nat.reduceLT, Nat.reduceBEq, Nat.reduceBNe, reduceCtorEq, Int.reduceBEq, Int.reduceBNe, Int.reduceLT, Int.reduceLE, Int.reduceEq, Int.reduceToNat, Int.reduceAdd, Int.reduceSub, Int.reduceNeg, w9, R6b.get (G := G), R6b.getN (G := G), R12.get (G := G), hwA, z4, z5, hb1, lM9]
      | true =>
        cases hb2 : (eL == 4) with
        | false =>
          have hor : (4 : Int) = 4 ∨ eL = 4 ∨ (4 : Int) = 100 ∧ a = 0 := by
            rcases hgoal with ⟨h, _, _⟩ | ⟨_, h⟩
            · rw [h] at hb2; simp at hb2
            · exact h
          simp +contextual only [vq, vc, ve, vv, vn, vl, ↓reduceIte, Nat.reduceEqDiff, Nat.reduceAdd, Nat.reduceMul, Nat.reduceSub, Nat.reduceLeDiff, Nat.reduceLT, Nat.reduceBEq, Nat.reduceBNe, reduceCtorEq, Int.reduceBEq, Int.reduceBNe, Int.reduceLT, Int.reduceLE, Int.reduceEq, Int.reduceToNat, Int.reduceAdd, Int.reduceSub, Int.reduceNeg, w9, R6b.get (G := G), R6b.getN (G := G), R12.get (G := G), hwA, z4, z5, hb1, hb2, lM9]
        | true =>
          cases hb3 : (aL == a + 2) with
          | false =>
            have hor : (4 : Int) = 4 ∨ eL = 4 ∨ (4 : Int) = 100 ∧ a = 0 := by
              rcases hgoal with ⟨_, h, _⟩ | ⟨_, h⟩
              · rw [h] at hb3; simp at hb3
              · exact h
            simp +contextual only [vq, vc, ve, vv, vn, vl, ↓reduceIte, Nat.reduceEqDiff, Nat.reduceAdd, Nat.reduceMul, Nat.reduceSub, Nat.reduceLeDiff, Nat.reduceLT, Nat.reduceBEq, Nat.reduceBNe, reduceCtorEq, Int.reduceBEq, Int.reduceBNe, Int.reduceLT, Int.reduceLE, Int.reduceEq, Int.reduceToNat, Int.reduceAdd, Int.reduceSub, Int.reduceNeg, w9, R6b.get (G := G), R6b.getN (G := G), R12.get (G := G), hwA, z4, z5, hb1, hb2, hb3, lM9]
          | true => simp +contextual only [vq, vc, ve, vv, vn, vl, ↓reduceIte, Nat.reduceEqDiff, Nat.reduceAdd, Nat.reduceMul, Nat.reduceSub, Nat.reduceLeDiff, Nat.reduceLT, Nat.reduceBEq, Nat.reduceBNe, reduceCtorEq, Int.reduceBEq, Int.reduceBNe, Int.reduceLT, Int.reduceLE, Int.reduceEq, Int.reduceToNat, Int.reduceAdd, Int.reduceSub, Int.reduceNeg, w9, R6b.get (G := G), R6b.getN (G := G), R12.get (G := G), hwA, hb1, hb2, hb3, lM9]
theorem lawAll (m : Mem) (xs : List EV) (hro : RO m) (hs : SitArgs 1048576 m [.str, .bool] xs) : ∃ m' p', Go.Ev.Comes T G f_l10_ParamAgain xs m none ⟨.val (.bool true), m', p'⟩ := by
  obtain ⟨ys, r, rfl, h1, _, ys2, r2, rfl, h2, _, rfl⟩ := hs
  obtain ⟨s, rfl, hl⟩ := sits_str h1
  obtain ⟨w, rfl⟩ := sits_bool h2
  exact ⟨m, none, law m s w (by omega)⟩
end Go.Proofs.YtmjoaiccbghijaaGreatDoor.paramAgain
