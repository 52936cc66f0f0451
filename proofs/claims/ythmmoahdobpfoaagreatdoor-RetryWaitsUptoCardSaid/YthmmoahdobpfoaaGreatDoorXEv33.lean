/- The engine, part 33: private slices that grew from nil or from a literal, and what stays when other blocks are written. There are no conditions. -/
import Derived.Test.YthmmoahdobpfoaaGreatDoorXEv31
set_option linter.unusedSimpArgs false
set_option linter.unusedSectionVars false
set_option linter.unusedVariables false
namespace Go.Ev
variable {G : Globs}

/-- It stays, whatever is written to these blocks, and to new ones. -/
def Off (S : Nat → Prop) (P : Mem → Prop) (m : Mem) : Prop := ∀ M : Mem, m.bl.length ≤ M.bl.length → (∀ j, j < m.bl.length → ¬ S j → M.bl[j]? = m.bl[j]?) → P M
theorem Off.now {S : Nat → Prop} {P : Mem → Prop} {m : Mem} (h : Off S P m) : P m := h m (Nat.le_refl _) fun _ _ _ => rfl
/-- Over a change of blocks that may change. -/
theorem Off.step {S S' : Nat → Prop} {P : Mem → Prop} {m m' : Mem} (h : Off S P m) (hl : m.bl.length ≤ m'.bl.length) (hk : ∀ j, j < m.bl.length → ¬ S j → m'.bl[j]? = m.bl[j]? ∧ ¬ S' j) : Off S' P m' := fun M hM hj =>
  h M (Nat.le_trans hl hM) fun j h1 h2 => by
    obtain ⟨e, n⟩ := hk j h1 h2
    rw [hj j (Nat.lt_of_lt_of_le h1 hl) n, e]
theorem Off.same {S : Nat → Prop} {P : Mem → Prop} {m m' : Mem} (h : Off S P m) (hl : m.bl.length ≤ m'.bl.length) (hk : ∀ j, j < m.bl.length → ¬ S j → m'.bl[j]? = m.bl[j]?) : Off S P m' := h.step hl fun j h1 h2 => ⟨hk j h1 h2, h2⟩
theorem Off.of_grown {P : Mem → Prop} {S : Nat → Prop} {m : Mem} (hP : ∀ M, Grown m M → P M) (hS : ∀ j, S j → m.bl.length ≤ j) : Off S P m := fun M hM hj =>
  hP M (grown_of hM fun j hjl => hj j hjl fun hs => by have := hS j hs; omega)

/-- A count of growths from which there is room for more. -/
def Gok (tag g len : Nat) : Prop := g % typeK ≤ len ∧ (g < typeK ∨ tag / typeK = g / typeK ∧ g % typeK ≠ 0)
theorem gok_step {tag g len cnt : Nat} (h : Gok tag g len) (hl : len ≤ 1000000000000) (hc : cnt ≠ 0) : Gok tag (g + 1) (len + cnt) ∧ (g + 1) / typeK = g / typeK := by
  obtain ⟨h1, h2⟩ := h
  simp only [Gok, typeK] at *
  omega
theorem gok_tag {tag cnt : Nat} (ht : TagOk tag) (hc : cnt ≠ 0) : Gok tag tag cnt := by
  rcases ht with rfl | ⟨j, hj, rfl⟩
  · exact ⟨by simp, .inl (by simp [typeK])⟩
  · have e : (typeK * j + 1) % typeK = 1 := by rw [Nat.mul_add_mod]; rfl
    exact ⟨by rw [e]; omega, .inr ⟨rfl, by rw [e]; omega⟩⟩
theorem gok_zero {tag n : Nat} : Gok tag 0 n := ⟨by simp, .inl (by simp [typeK])⟩

/-- A private slice: its block, if any, its cells, its length. -/
def Priv (k : Option Nat) (esz tag : Nat) (m : Mem) (v : EV) (rows : List EV) (len : Nat) : Prop := match k with
  | none => v = .slice none 0 0 0 ∧ rows = [] ∧ len = 0
  | some j => ∃ g, Gok tag g len ∧ v = .slice (some ⟨.mem j g, 0⟩) len len esz ∧ rows.length = len * esz ∧ m.bl[j]? = some (.cells rows g true)
theorem Priv.nil {esz tag : Nat} {m : Mem} : Priv none esz tag m (.slice none 0 0 0) [] 0 := ⟨rfl, rfl, rfl⟩
theorem Priv.lit {esz tag n : Nat} {m M : Mem} {rows : List EV} (e : M = m.push (.cells rows 0 true)) (hn : rows.length = n * esz) : Priv (some m.bl.length) esz tag M (.slice (some ⟨.mem m.bl.length 0, 0⟩) n n esz) rows n :=
  ⟨0, gok_zero, rfl, hn, by rw [e]; simp [Mem.push]⟩
section
variable {k : Option Nat} {esz tag len : Nat} {m M : Mem} {v : EV} {rows : List EV}
theorem Priv.keep (h : Priv k esz tag m v rows len) (hk : ∀ j, k = some j → M.bl[j]? = m.bl[j]?) : Priv k esz tag M v rows len := by
  cases k with
  | none => exact h
  | some j => obtain ⟨g, h1, h2, h3, h4⟩ := h; exact ⟨g, h1, h2, h3, by rw [hk j rfl]; exact h4⟩
theorem Priv.lt {j : Nat} (h : Priv (some j) esz tag m v rows len) : j < m.bl.length := by
  obtain ⟨g, _, _, _, h4⟩ := h
  exact (List.getElem?_eq_some_iff.1 h4).1
theorem Priv.ltk (h : Priv k esz tag m v rows len) {j : Nat} (hk : k = some j) : j < m.bl.length := by subst hk; exact h.lt
theorem Priv.grown (h : Priv k esz tag m v rows len) (hg : Grown m M) : Priv k esz tag M v rows len := h.keep fun j hj => by subst hj; exact hg.at h.lt
theorem Priv.size (h : Priv k esz tag m v rows len) : rows.length = len * esz := by
  cases k with
  | none => obtain ⟨_, rfl, rfl⟩ := h; simp
  | some k => obtain ⟨g, _, _, h3, _⟩ := h; exact h3
theorem Priv.slice (h : Priv k esz tag m v rows len) : ∃ a c e, v = .slice a len c e := by
  cases k with
  | none => obtain ⟨rfl, rfl, rfl⟩ := h; exact ⟨_, _, _, rfl⟩
  | some k => obtain ⟨g, _, rfl, _, _⟩ := h; exact ⟨_, _, _, rfl⟩
theorem Priv.row (h : Priv k esz tag m v rows len) :
    v = .slice none 0 0 0 ∧ rows = [] ∧ len = 0 ∨ ∃ j g, k = some j ∧ v = .slice (some ⟨.mem j g, 0⟩) len len esz ∧ ∀ (G : Globs) (o n : Nat) (cs : List EV), Sub rows o n cs → m.getN G ⟨.mem j g, o⟩ n = some cs := by
  cases k with
  | none => exact .inl h
  | some k =>
    obtain ⟨g, h1, h2, h3, h4⟩ := h
    refine .inr ⟨k, g, rfl, h2, fun G o n cs ⟨s1, s2⟩ => ?_⟩
    unfold Mem.getN
    split
    · rename_i h0
      subst h0
      simp at s2
      rw [s2]
    · simp only [Mem.row, h4, if_true, Option.bind_some, if_pos s1, s2]
theorem Priv.src (h : Priv k esz tag m v rows len) : srcCells G m esz v = some (rows, len) := by
  have hs := h.size
  rcases h.row with ⟨rfl, rfl, rfl⟩ | ⟨j, g, _, rfl, hr⟩
  · rfl
  · simp only [srcCells, hr G 0 (len * esz) rows (sub_all hs), Option.map_some]
end
/-- Its bytes. -/
theorem Priv.bytes {k : Option Nat} {tag n : Nat} {m : Mem} {v : EV} {s : List UInt8} (h : Priv k 1 tag m v (bytesE s) n) : BytesAt G m v s := by
  have hs := h.size
  rw [bytes_len, Nat.mul_one] at hs
  subst hs
  have hlt := fun j (hj : k = some j) => h.ltk hj
  rcases h.row with ⟨rfl, h2, h3⟩ | ⟨j, g, hj, rfl, hr⟩
  · exact .inl ⟨rfl, List.length_eq_zero_iff.1 h3⟩
  · exact bytes_of (Nat.le_refl _) (by simpa [oldAd] using hlt j hj) (hr G 0 _ _ (sub_all bytes_len))
/-- Its rows. -/
theorem Priv.rows {k : Option Nat} {esz tag n : Nat} {m : Mem} {v : EV} {rows : List (List EV)} (h : Priv k esz tag m v rows.flatten n) (hn : n = rows.length) (hr : ∀ r ∈ rows, r.length = esz) : RowsAt G m esz v rows := by
  subst hn
  have hlt := fun j (hj : k = some j) => h.ltk hj
  refine ⟨hr, ?_⟩
  rcases h.row with ⟨rfl, h2, h3⟩ | ⟨j, g, hj, rfl, hrow⟩
  · exact .inl ⟨rfl, List.length_eq_zero_iff.1 h3⟩
  · exact .inr ⟨_, _, rfl, Nat.le_refl _, by simpa [oldAd] using hlt j hj, fun i r hi => by
      have := hrow G (i * esz) esz r (flat_row hr hi)
      simpa [Ad.plus] using this⟩
/-- A private slice of bytes, by whatever else may change. -/
theorem Priv.off {S : Nat → Prop} {j : Nat} {tag n : Nat} {m : Mem} {v : EV} {s : List UInt8} (h : Priv (some j) 1 tag m v (bytesE s) n) (hS : ¬ S j) : Off S (fun M => BytesAt G M v s) m := fun M hM hj =>
  (h.keep (M := M) fun i hi => by cases hi; exact hj j h.lt hS).bytes
/-- It grows. -/
theorem Priv.app {k : Option Nat} {esz bytes tag cnt len : Nat} {m : Mem} {v : EV} {rows new : List EV} (h : Priv k esz tag m v rows len) (ht : TagOk tag) (hb : bytes ≠ 0) (hn : new.length = cnt * esz) (hs : (len + cnt) * bytes ≤ 1000000000000) :
    ∃ v' m' k', appendE G m esz bytes tag v new cnt = some (v', m') ∧ Priv k' esz tag m' v' (rows ++ new) (len + cnt) ∧ (k' = k ∨ k = none ∧ k' = some m.bl.length) ∧ (∀ j, j < m.bl.length → some j ≠ k → m'.bl[j]? = m.bl[j]?) ∧ m.bl.length ≤ m'.bl.length ∧ (∀ n0, n0 ≤ m.low → n0 ≤ m.bl.length → (∀ j, k = some j → n0 ≤ j) → n0 ≤ m'.low) := by
  have hle : len + cnt ≤ (len + cnt) * bytes := Nat.le_mul_of_pos_right _ (Nat.pos_of_ne_zero hb)
  by_cases hc : cnt = 0
  · subst hc
    have : new = [] := List.length_eq_zero_iff.1 (by simpa using hn)
    subst this
    refine ⟨v, m, k, ?_, by simpa using h, .inl rfl, fun _ _ _ => rfl, Nat.le_refl _, fun _ h _ _ => h⟩
    cases k with
    | none => obtain ⟨rfl, rfl, rfl⟩ := h; rfl
    | some j =>
      obtain ⟨g, _, rfl, _, _⟩ := h
      simp [appendE]
  cases k with
  | none =>
    obtain ⟨rfl, rfl, rfl⟩ := h
    rw [Nat.zero_add] at hs hle
    refine ⟨.slice (some ⟨.mem m.bl.length tag, 0⟩) cnt cnt esz, m.push (.cells new tag true), some m.bl.length, ?_, ⟨tag, by simpa using gok_tag ht hc, by simp, by simpa using hn, by simp [Mem.push]⟩, .inr ⟨rfl, rfl⟩, ?_, ?_, fun n0 h _ _ => h⟩
    · simp only [appendE, if_neg hc]
      rw [if_pos (by omega)]
    · intro j hj _
      simp only [Mem.push, List.getElem?_append_left hj]
    · simp [Mem.push]
  | some j =>
    obtain ⟨g, hg, rfl, hr, hk⟩ := h
    have hjl : j < m.bl.length := (List.getElem?_eq_some_iff.1 hk).1
    obtain ⟨g1, g2⟩ := gok_step hg (by omega) hc
    have gg := hg.2
    refine ⟨.slice (some ⟨.mem j (g + 1), 0⟩) (len + cnt) (len + cnt) esz, ⟨m.bl.set j (.cells (rows ++ new) (g + 1) true), min m.low j⟩, some j, ?_, ⟨g + 1, g1, rfl, by rw [List.length_append, hr, hn, Nat.add_mul], ?_⟩, .inl rfl, ?_, ?_, fun n0 h _ h2 => ?_⟩
    · simp only [appendE, growE, ne_eq, not_true_eq_false, if_false]
      rw [if_neg (by omega), if_pos (by omega)]
      simp only [hk, Nat.zero_add]
      rw [if_pos ⟨trivial, by omega, g2, by rcases gg with gg | ⟨gg, gz⟩; exact .inl gg; exact .inr ⟨gg, gz, trivial⟩⟩]
      simp only [List.drop_zero, Option.some.injEq, Prod.mk.injEq]
      refine ⟨trivial, ?_⟩
      rw [← hr, List.take_length]
    · simp only [List.getElem?_set, if_true, hjl]
    · intro i hi hij
      simp only
      rw [List.getElem?_set_ne (show j ≠ i from fun e => hij (by rw [e]))]
    · simp
    · have := h2 j rfl
      simp only; omega
end Go.Ev
