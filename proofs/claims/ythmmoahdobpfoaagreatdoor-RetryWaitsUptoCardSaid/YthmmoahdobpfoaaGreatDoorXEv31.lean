/- The engine, part 31: slices of bytes; what a search answers. There are no conditions. -/
import Derived.Test.YthmmoahdobpfoaaGreatDoorXEv29
import Derived.Lib.IndexMore
set_option linter.unusedSimpArgs false
set_option linter.unusedSectionVars false
set_option linter.unusedVariables false
namespace Go.Ev
variable {T : FuncId → Option EFunc} {G : Globs}

theorem nr_true {m : Mem} {n : Nat} (h : n = 0) (a : Ad) : m.getN G a n = some [] := by
  unfold Mem.getN
  rw [if_pos h]
/-- A slice of these bytes. -/
def BytesAt (G : Globs) (m : Mem) (v : EV) (s : List UInt8) : Prop :=
  (v = .slice none 0 0 0 ∧ s = []) ∨ ∃ a cap, v = .slice (some a) s.length cap 1 ∧ s.length ≤ cap ∧ oldAd m.bl.length a = true ∧ m.getN G a s.length = some (bytesE s)
theorem BytesAt.slice {m : Mem} {v : EV} {s : List UInt8} (h : BytesAt G m v s) : ∃ a c e, v = .slice a s.length c e := by
  rcases h with ⟨rfl, rfl⟩ | ⟨a, cap, rfl, _⟩
  · exact ⟨none, 0, 0, rfl⟩
  · exact ⟨_, _, _, rfl⟩
theorem BytesAt.len {m : Mem} {v : EV} {s : List UInt8} (h : BytesAt G m v s) : lnbE v = some (.int .i64 s.length) := by
  obtain ⟨a, c, e, rfl⟩ := h.slice
  rfl
theorem BytesAt.tos {m : Mem} {v : EV} {s : List UInt8} (h : BytesAt G m v s) : tosE G m v = some (.str s) := by
  rcases h with ⟨rfl, rfl⟩ | ⟨a, cap, rfl, _, _, hg⟩
  · rfl
  · simp only [tosE, hg, Option.bind_some, strE_of, Option.map_some]
theorem BytesAt.tosF {m : Mem} {v : EV} {s : List UInt8} {n0 : Nat} (h : BytesAt G m v s) (hn : m.bl.length ≤ n0) : Go.Ev.tosF n0 G m v = some (.str s) := by
  rcases h with ⟨rfl, rfl⟩ | ⟨a, cap, rfl, _, ho, hg⟩
  · rfl
  · simp only [Go.Ev.tosF, oldAd_le ho hn, if_true, hg, Option.bind_some, strE_of, Option.map_some]
theorem BytesAt.srcS {m : Mem} {v : EV} {s : List UInt8} (h : BytesAt G m v s) : Go.Ev.srcS G m v = some s := by
  rcases h with ⟨rfl, rfl⟩ | ⟨a, cap, rfl, _, _, hg⟩
  · rfl
  · simp only [Go.Ev.srcS, hg, Option.bind_some, strE_of]
theorem BytesAt.src {m : Mem} {v : EV} {s : List UInt8} (h : BytesAt G m v s) : srcCells G m 1 v = some (bytesE s, s.length) := by
  rcases h with ⟨rfl, rfl⟩ | ⟨a, cap, rfl, _, _, hg⟩
  · rfl
  · simp only [srcCells, Nat.mul_one, hg, Option.map_some]
theorem BytesAt.grown {m M : Mem} (hg : Grown m M) {v : EV} {s : List UInt8} (h : BytesAt G m v s) : BytesAt G M v s :=
  h.imp id fun ⟨a, cap, h1, h2, h3, h4⟩ => ⟨a, cap, h1, h2, oldAd_le h3 hg.le, getN_grown hg h4⟩
theorem BytesAt.low {m : Mem} {k : Nat} {v : EV} {s : List UInt8} (h : BytesAt G m v s) : BytesAt G ⟨m.bl, k⟩ v s := h
/-- A slice that has bytes. -/
theorem BytesAt.pos {m : Mem} {v : EV} {s : List UInt8} (h : BytesAt G m v s) (hs : s ≠ []) : ∃ a cap, v = .slice (some a) s.length cap 1 ∧ s.length ≤ cap ∧ oldAd m.bl.length a = true ∧ m.getN G a s.length = some (bytesE s) ∧ ∀ (i : Nat) (hi : i < s.length), m.get G (a.plus i) = some (byteE s[i]) := by
  rcases h with ⟨_, h⟩ | ⟨a, cap, rfl, hc, ho, hg⟩
  · exact absurd h hs
  · refine ⟨a, cap, rfl, hc, ho, hg, fun i hi => ?_⟩
    have := get_part (a := a) (off := 0) (k := i) (v := byteE s[i]) (by rw [Ad.plus_zero]; exact hg) (by omega) (sub_one (by simp [bytesE, hi]))
    rwa [Nat.zero_add] at this
theorem bytes_of {m : Mem} {a : Ad} {cap : Nat} {s : List UInt8} (hc : s.length ≤ cap) (ho : oldAd m.bl.length a = true) (hg : m.getN G a s.length = some (bytesE s)) : BytesAt G m (.slice (some a) s.length cap 1) s := .inr ⟨a, cap, rfl, hc, ho, hg⟩
/-- A part of a slice. -/
theorem bytes_part {m : Mem} {a : Ad} {cap l h : Nat} {s : List UInt8} (hc : s.length ≤ cap) (ho : oldAd m.bl.length a = true) (hg : m.getN G a s.length = some (bytesE s)) (h1 : l ≤ h) (h2 : h ≤ s.length) : BytesAt G m (.slice (some (a.plus l)) (h - l) (cap - l) 1) ((s.drop l).take (h - l)) := by
  have hl : ((s.drop l).take (h - l)).length = h - l := by simp; omega
  refine .inr ⟨a.plus l, cap - l, by rw [hl], by omega, ho, ?_⟩
  rw [hl]
  by_cases h0 : h - l = 0
  · rw [h0, List.take_zero]
    exact nr_true rfl _
  · have := getN_part (a := a) (off := 0) (k := l) (j := h - l) (ds := bytesE ((s.drop l).take (h - l))) (by rw [Ad.plus_zero]; exact hg) (by omega) ⟨by simp [bytesE]; omega, by simp [bytesE, List.map_take, List.map_drop]⟩
    rwa [Nat.zero_add] at this
theorem bytes_drop {m : Mem} {a : Ad} {cap l : Nat} {s : List UInt8} (hc : s.length ≤ cap) (ho : oldAd m.bl.length a = true) (hg : m.getN G a s.length = some (bytesE s)) (h1 : l ≤ s.length) : BytesAt G m (.slice (some (a.plus l)) (s.length - l) (cap - l) 1) (s.drop l) := by
  have := bytes_part hc ho hg h1 (Nat.le_refl s.length)
  rwa [List.take_of_length_le (by simp)] at this
theorem bytes_take {m : Mem} {a : Ad} {cap h : Nat} {s : List UInt8} (hc : s.length ≤ cap) (ho : oldAd m.bl.length a = true) (hg : m.getN G a s.length = some (bytesE s)) (h2 : h ≤ s.length) : BytesAt G m (.slice (some a) h cap 1) (s.take h) := by
  have := bytes_part hc ho hg (Nat.zero_le h) h2
  simpa only [Ad.plus_zero, Nat.sub_zero, List.drop_zero] using this
/-- A literal's slice, just laid. -/
theorem bytes_new {N M : Mem} {s : List UInt8} (e : M = N.push (.cells (bytesE s) 0 true)) : BytesAt G M (.slice (some ⟨.mem N.bl.length 0, 0⟩) s.length s.length 1) s :=
  .inr ⟨_, _, rfl, Nat.le_refl _, by rw [e]; simp [oldAd, Mem.push], by rw [e]; exact getN_row (row_push _ _) (sub_all bytes_len)⟩
theorem own_bytes {n0 tag n : Nat} {m : Mem} {v : EV} {s : List UInt8} (h : Own n0 1 tag m v (bytesE s) n) : BytesAt G m v s := by
  have hs := h.size
  rw [bytes_len, Nat.mul_one] at hs
  subst hs
  obtain ⟨k, _, ho⟩ := h
  have hlt := fun j (hj : k = some j) => (by subst hj; exact ho.lt : j < m.bl.length)
  rcases ho.row with ⟨rfl, h2, h3⟩ | ⟨j, g, hj, rfl, hz, hrow⟩
  · exact .inl ⟨rfl, List.length_eq_zero_iff.1 h3⟩
  · exact .inr ⟨_, _, rfl, Nat.le_refl _, by simpa [oldAd] using hlt j hj, hrow G 0 s.length (bytesE s) (sub_all bytes_len)⟩
theorem lent_bytesAt {m : Mem} {n0 n1 : Nat} {v : EV} {s : List UInt8} {mark : List EV} (h : RowsAt G m 1 v ((bytesE s).map fun x => [x])) : BytesAt G m v s := by
  rcases h.2 with ⟨rfl, h2⟩ | ⟨a, cap, rfl, hc, ho, hg⟩
  · have : s = [] := by
      cases s with
      | nil => rfl
      | cons b s => simp [bytesE] at h2
    exact .inl ⟨rfl, this⟩
  · have hl : ((bytesE s).map fun x => [x]).length = s.length := by simp [bytesE]
    rw [hl] at hc ⊢
    refine .inr ⟨a, cap, rfl, hc, ho, ?_⟩
    by_cases h0 : s = []
    · subst h0
      exact nr_true rfl _
    · have := whole_rows (G := G) (m := m) (a := a) (esz := 1) (by omega) ((bytesE s).map fun x => [x]) (by cases s with | nil => exact absurd rfl h0 | cons b s => simp [bytesE]) hg
      rw [hl, Nat.mul_one] at this
      rw [this]
      congr 1
      generalize bytesE s = l
      induction l with
      | nil => rfl
      | cons x l ih => simp only [List.map_cons, List.flatten_cons, ih]; rfl

/-! ### Searches -/
open Go.Lib in
theorem occ_eq {s t : List UInt8} {i : Nat} : occAt s t i = ((s.drop i).take t.length == t) := by
  unfold occAt
  rw [Bool.eq_iff_iff, beq_iff_eq, List.isPrefixOf_iff_prefix, List.prefix_iff_eq_take]
  exact eq_comm
open Go.Lib in
theorem index_at {s t : List UInt8} {i : Nat} (hi : i ≤ s.length) (h : (s.drop i).take t.length = t) (hno : ∀ j, j < i → (s.drop j).take t.length ≠ t) : index s t = i :=
  index_first hi (by rw [occ_eq]; simpa using h) fun j hj => by rw [occ_eq]; simpa using hno j hj
open Go.Lib in
theorem index_no {s t : List UInt8} (h : ∀ j, j + t.length ≤ s.length → (s.drop j).take t.length ≠ t) : index s t = -1 := by
  refine index_none fun j hj => ?_
  rw [occ_eq]
  by_cases hl : j + t.length ≤ s.length
  · simpa using h j hl
  · have : ((s.drop j).take t.length).length ≠ t.length := by simp; omega
    simp only [beq_eq_false_iff_ne, ne_eq]
    exact fun e => this (by rw [e])
open Go.Lib in
/-- What is searched behind a place where nothing is ahead of it. -/
theorem index_from {s t : List UInt8} {i : Nat} (hi : i ≤ s.length) (hno : ∀ j, j < i → (s.drop j).take t.length ≠ t) : index s t = if index (s.drop i) t < 0 then -1 else i + index (s.drop i) t := by
  have hge := index_ge (s.drop i) t
  split
  · rename_i h
    refine index_no fun j hl hj => ?_
    by_cases hji : j < i
    · exact hno j hji hj
    · have hw : ∀ k, k < j - i → True := fun _ _ => trivial
      have he : index (s.drop i) t = -1 := by omega
      have hall : ∀ k, k ≤ (s.drop i).length → occAt (s.drop i) t k = false := fun k hk => by
        cases ho : occAt (s.drop i) t k with
        | false => rfl
        | true =>
          exfalso
          have : ∃ k0, k0 ≤ (s.drop i).length ∧ occAt (s.drop i) t k0 = true ∧ ∀ q, q < k0 → occAt (s.drop i) t q = false := by
            induction k using Nat.strongRecOn with
            | _ k ih =>
              by_cases hq : ∃ q, q < k ∧ occAt (s.drop i) t q = true
              · obtain ⟨q, hq1, hq2⟩ := hq
                exact ih q hq1 (by omega) hq2
              · exact ⟨k, hk, ho, fun q hq1 => by
                  cases hx : occAt (s.drop i) t q with
                  | false => rfl
                  | true => exact absurd ⟨q, hq1, hx⟩ hq⟩
          obtain ⟨k0, h0, h1, h2⟩ := this
          have := index_first h0 h1 h2
          omega
      have := hall (j - i) (by rw [List.length_drop]; omega)
      rw [occ_eq, List.drop_drop, show i + (j - i) = j by omega] at this
      simp at this
      exact this hj
  · rename_i h
    obtain ⟨k, hk⟩ : ∃ k : Nat, index (s.drop i) t = k := ⟨(index (s.drop i) t).toNat, by omega⟩
    rw [hk]
    have hfirst : k ≤ (s.drop i).length ∧ occAt (s.drop i) t k = true ∧ ∀ q, q < k → occAt (s.drop i) t q = false := by
      by_cases hx : ∃ q, q ≤ (s.drop i).length ∧ occAt (s.drop i) t q = true
      · have : ∃ k0, k0 ≤ (s.drop i).length ∧ occAt (s.drop i) t k0 = true ∧ ∀ q, q < k0 → occAt (s.drop i) t q = false := by
          obtain ⟨q, hq, ho⟩ := hx
          induction q using Nat.strongRecOn with
          | _ k ih =>
            by_cases hq' : ∃ q, q < k ∧ occAt (s.drop i) t q = true
            · obtain ⟨q, hq1, hq2⟩ := hq'
              exact ih q hq1 (by omega) hq2
            · exact ⟨k, hq, ho, fun q hq1 => by
                cases hx : occAt (s.drop i) t q with
                | false => rfl
                | true => exact absurd ⟨q, hq1, hx⟩ hq'⟩
        obtain ⟨k0, h0, h1, h2⟩ := this
        have := index_first h0 h1 h2
        have : k = k0 := by omega
        subst this
        exact ⟨h0, h1, h2⟩
      · have := index_none (s := s.drop i) (sub := t) fun j hj => by
          cases ho : occAt (s.drop i) t j with
          | false => rfl
          | true => exact absurd ⟨j, hj, ho⟩ hx
        omega
    obtain ⟨h0, h1, h2⟩ := hfirst
    rw [List.length_drop] at h0
    have e1 : ((i + k : Nat) : Int) = (i : Int) + k := by omega
    rw [← e1]
    refine index_at (by omega) ?_ fun j hj => ?_
    · rw [occ_eq, List.drop_drop] at h1
      simpa using h1
    · by_cases hji : j < i
      · exact hno j hji
      · have := h2 (j - i) (by omega)
        rw [occ_eq, List.drop_drop, show i + (j - i) = j by omega] at this
        simpa using this

/-- Rows of bytes. -/
def ByteRows (G : Globs) (m : Mem) (v : EV) (ll : List (List UInt8)) : Prop := ∃ xs : List EV, xs.length = ll.length ∧ RowsAt G m 1 v (xs.map fun x => [x]) ∧ ∀ (i : Nat) (x : EV) (s : List UInt8), xs[i]? = some x → ll[i]? = some s → BytesAt G m x s
theorem ByteRows.slice {m : Mem} {v : EV} {ll : List (List UInt8)} (h : ByteRows G m v ll) : ∃ a c e, v = .slice a ll.length c e := by
  obtain ⟨xs, h1, h2, _⟩ := h
  obtain ⟨a, c, e, h⟩ := h2.slice
  rw [List.length_map, h1] at h
  exact ⟨a, c, e, h⟩
theorem ByteRows.at {m : Mem} {v : EV} {ll : List (List UInt8)} (h : ByteRows G m v ll) {i : Nat} (hi : i < ll.length) : ∃ a cap x, v = .slice (some a) ll.length cap 1 ∧ m.get G (a.plus i) = some x ∧ oldAd m.bl.length a = true ∧ BytesAt G m x ll[i] := by
  obtain ⟨xs, h1, h2, h3⟩ := h
  obtain ⟨a, cap, e, hc, hg, ho⟩ := h2.at (i := i) (by simpa [h1] using hi)
  have hix : i < xs.length := by omega
  refine ⟨a, cap, xs[i], by rw [e]; simp [h1], ?_, ho, h3 i _ _ (List.getElem?_eq_getElem hix) (List.getElem?_eq_getElem hi)⟩
  rw [List.getElem_map, Nat.mul_one] at hg
  exact get_of_getN hg
theorem ByteRows.grown {m M : Mem} (hg : Grown m M) {v : EV} {ll : List (List UInt8)} (h : ByteRows G m v ll) : ByteRows G M v ll :=
  let ⟨xs, h1, h2, h3⟩ := h; ⟨xs, h1, h2.grown hg, fun i x s hx hs => (h3 i x s hx hs).grown hg⟩
end Go.Ev
