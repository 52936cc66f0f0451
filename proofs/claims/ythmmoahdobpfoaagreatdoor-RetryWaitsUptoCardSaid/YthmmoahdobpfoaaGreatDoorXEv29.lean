/- The engine, part 29: slices by their rows. There are no conditions. -/
import Derived.Test.YthmmoahdobpfoaaGreatDoorXEv28
set_option linter.unusedSimpArgs false
set_option linter.unusedSectionVars false
set_option linter.unusedVariables false
namespace Go.Ev
variable {G : Globs}

/-- A slice whose elements' cells are these rows, each esz cells long. -/
def RowsAt (G : Globs) (m : Mem) (esz : Nat) (v : EV) (rows : List (List EV)) : Prop :=
  (∀ r ∈ rows, r.length = esz) ∧ ((v = .slice none 0 0 0 ∧ rows = []) ∨
  ∃ a cap, v = .slice (some a) rows.length cap esz ∧ rows.length ≤ cap ∧ oldAd m.bl.length a = true ∧ ∀ (i : Nat) (r : List EV), rows[i]? = some r → m.getN G (a.plus (i * esz)) esz = some r)
theorem RowsAt.len {m : Mem} {esz : Nat} {v : EV} {rows : List (List EV)} (h : RowsAt G m esz v rows) : lnbE v = some (.int .i64 rows.length) := by
  rcases h.2 with ⟨rfl, rfl⟩ | ⟨a, cap, rfl, _⟩ <;> rfl
theorem RowsAt.slice {m : Mem} {esz : Nat} {v : EV} {rows : List (List EV)} (h : RowsAt G m esz v rows) : ∃ a c e, v = .slice a rows.length c e := by
  rcases h.2 with ⟨rfl, rfl⟩ | ⟨a, cap, rfl, _⟩
  · exact ⟨none, 0, 0, rfl⟩
  · exact ⟨_, _, _, rfl⟩
theorem RowsAt.at {m : Mem} {esz : Nat} {v : EV} {rows : List (List EV)} (h : RowsAt G m esz v rows) {i : Nat} (hi : i < rows.length) : ∃ a cap, v = .slice (some a) rows.length cap esz ∧ rows.length ≤ cap ∧ m.getN G (a.plus (i * esz)) esz = some rows[i] ∧ oldAd m.bl.length a = true := by
  rcases h.2 with ⟨rfl, rfl⟩ | ⟨a, cap, rfl, hc, ho, hr⟩
  · simp at hi
  · exact ⟨a, cap, rfl, hc, hr i _ (List.getElem?_eq_getElem hi), ho⟩
theorem RowsAt.grown {m M : Mem} (hg : Grown m M) {esz : Nat} {v : EV} {rows : List (List EV)} (h : RowsAt G m esz v rows) : RowsAt G M esz v rows := by
  refine ⟨h.1, h.2.imp id fun ⟨a, cap, h1, h2, h3, h4⟩ => ⟨a, cap, h1, h2, oldAd_le h3 hg.le, fun i r hi => getN_grown hg (h4 i r hi)⟩⟩
theorem RowsAt.low {m : Mem} {k esz : Nat} {v : EV} {rows : List (List EV)} (h : RowsAt G m esz v rows) : RowsAt G ⟨m.bl, k⟩ esz v rows := h
theorem RowsAt.src {m : Mem} {v : EV} {esz : Nat} {rows : List (List EV)} (he : esz ≠ 0) (h : RowsAt G m esz v rows) : srcCells G m esz v = some (rows.flatten, rows.length) := by
  rcases h.2 with ⟨rfl, rfl⟩ | ⟨a, cap, rfl, _, _, hg⟩
  · rfl
  · by_cases hn : rows = []
    · subst hn
      simp [srcCells, Mem.getN]
    · simp only [srcCells, whole_rows he rows hn hg, Option.map_some]
theorem flat_row {esz : Nat} : ∀ {rows : List (List EV)} {i : Nat} {r : List EV}, (∀ c ∈ rows, c.length = esz) → rows[i]? = some r → Sub rows.flatten (i * esz) esz r
  | [], _, _, _, h => by simp at h
  | c :: cs, 0, r, hl, h => by
    simp at h
    subst h
    have := hl c (List.mem_cons_self ..)
    rw [Nat.zero_mul]
    exact sub_here this
  | c :: cs, i + 1, r, hl, h => by
    have h1 := hl c (List.mem_cons_self ..)
    have := flat_row (rows := cs) (fun c hc => hl c (List.mem_cons_of_mem _ hc)) (by simpa using h)
    rw [Nat.succ_mul, Nat.add_comm]
    exact sub_skip h1 this
theorem own_rows {n0 esz tag : Nat} {m : Mem} {v : EV} {rows : List (List EV)} {n : Nat} (h : Own n0 esz tag m v rows.flatten n) (hn : n = rows.length) (hr : ∀ r ∈ rows, r.length = esz) : RowsAt G m esz v rows := by
  subst hn
  obtain ⟨k, _, ho⟩ := h
  refine ⟨hr, ?_⟩
  have hlt := fun j (hj : k = some j) => (by subst hj; exact ho.lt : j < m.bl.length)
  rcases ho.row with ⟨rfl, h2, h3⟩ | ⟨j, g, hj, rfl, hz, hrow⟩
  · exact .inl ⟨rfl, List.length_eq_zero_iff.1 h3⟩
  · exact .inr ⟨_, _, rfl, Nat.le_refl _, by simpa [oldAd] using hlt j hj, fun i r hi => by
      have := hrow G (i * esz) esz r (flat_row hr hi)
      simpa [Ad.plus] using this⟩
theorem lent_rowsAt {m : Mem} {n0 n1 esz : Nat} {v : EV} {rows : List (List EV)} {mark : List EV} (h : LentRows G m n0 n1 esz v rows mark) (hn : n1 ≤ m.bl.length) (hr : ∀ r ∈ rows, r.length = esz) : RowsAt G m esz v rows := by
  obtain ⟨k, h1, h2, rfl, h3⟩ := h
  refine ⟨hr, .inr ⟨_, _, rfl, by omega, by simp [oldAd]; omega, fun i r hi => ?_⟩⟩
  have hil : i < rows.length := (List.getElem?_eq_some_iff.1 hi).1
  have := h3 i r (by rw [List.getElem?_append_left hil]; exact hi)
  simpa [Ad.plus] using this
/-- A slice of one literal row. -/
theorem lit_rowsAt {N M : Mem} {esz n : Nat} {rows : List (List EV)} (e : M = N.push (.cells rows.flatten 0 true)) (hn : n = rows.length) (hr : ∀ r ∈ rows, r.length = esz) : RowsAt G M esz (.slice (some ⟨.mem N.bl.length 0, 0⟩) n n esz) rows := by
  subst hn
  have R : RowIs M N.bl.length rows.flatten := by rw [e]; exact row_push _ _
  refine ⟨hr, .inr ⟨_, _, rfl, Nat.le_refl _, by rw [e]; simp [oldAd, Mem.push], fun i r hi => ?_⟩⟩
  have := getN_row (G := G) R (flat_row hr hi)
  simpa [Ad.plus] using this
/-- What an argument's slice is. -/
theorem RowsAt.of_block {m : Mem} {b esz n : Nat} {rw : Bool} {rows : List (List EV)} (hn : n = rows.length) (hb : b < m.bl.length) (h : n = 0 ∨ m.bl[b]? = some (.cells rows.flatten 0 rw)) (hr : ∀ r ∈ rows, r.length = esz) : RowsAt G m esz (.slice (some ⟨.mem b 0, 0⟩) n n esz) rows := by
  subst hn
  refine ⟨hr, .inr ⟨_, _, rfl, Nat.le_refl _, by simpa [oldAd] using hb, fun i r hi => ?_⟩⟩
  have hil : i < rows.length := (List.getElem?_eq_some_iff.1 hi).1
  rcases h with h | h
  · omega
  · obtain ⟨s1, s2⟩ := flat_row hr hi
    simp only [Ad.plus, Nat.zero_add]
    unfold Mem.getN
    split
    · rename_i h0
      subst h0
      simp at s2
      rw [s2]
    · simp only [Mem.row, h, if_true, Option.bind_some, if_pos s1, s2]
end Go.Ev
