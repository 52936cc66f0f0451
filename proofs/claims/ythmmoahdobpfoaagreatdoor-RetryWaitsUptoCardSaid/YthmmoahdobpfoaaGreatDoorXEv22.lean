/- The engine, part 22: slices with spare room: made, grown in place, and what stays. There are no conditions. -/
import Derived.Test.YthmmoahdobpfoaaGreatDoorXEv21
set_option linter.unusedSimpArgs false
set_option linter.unusedSectionVars false
set_option linter.unusedVariables false
namespace Go.Ev
variable {T : FuncId → Option EFunc} {G : Globs}

theorem Ad.plus_zero {a : Ad} : a.plus 0 = a := rfl

/-- A block that is a slice's memory, its first rows written. -/
def Buf (m : Mem) (b esz cap : Nat) (rows : List (List EV)) : Prop :=
  ∃ row, m.bl[b]? = some (.cells row 0 true) ∧ row.length = cap * esz ∧ (∀ r ∈ rows, r.length = esz) ∧ rows.length ≤ cap ∧ row.take (rows.length * esz) = rows.flatten

/-- Nothing but one block is changed. -/
def But1 (b : Nat) (m m' : Mem) : Prop := m'.bl.length = m.bl.length ∧ ∀ j, j ≠ b → m'.bl[j]? = m.bl[j]?

theorem flat_len {esz : Nat} : ∀ {rows : List (List EV)}, (∀ r ∈ rows, r.length = esz) → rows.flatten.length = rows.length * esz
  | [], _ => by simp
  | r :: rows, h => by
    have := flat_len (rows := rows) fun r hr => h r (List.mem_cons_of_mem _ hr)
    simp only [List.flatten_cons, List.length_append, List.length_cons, this, h r (List.mem_cons_self ..), Nat.succ_mul]
    omega

theorem But1.rfl' {b : Nat} {m : Mem} : But1 b m m := ⟨rfl, fun _ _ => rfl⟩
theorem Buf.lt {m : Mem} {b esz cap : Nat} {rows : List (List EV)} (h : Buf m b esz cap rows) : b < m.bl.length := by
  obtain ⟨row, hb, _⟩ := h
  exact (List.getElem?_eq_some_iff.1 hb).1
theorem Buf.grown {m M : Mem} (h : Grown m M) {b esz cap : Nat} {rows : List (List EV)} (k : Buf m b esz cap rows) : Buf M b esz cap rows := by
  have hl := k.lt
  obtain ⟨row, hb, k⟩ := k
  obtain ⟨l, h⟩ := h
  exact ⟨row, by rw [h, List.getElem?_append_left hl, hb], k⟩
theorem Buf.but {m M : Mem} {b b' esz cap : Nat} {rows : List (List EV)} (h : But1 b m M) (hb : b' ≠ b) (k : Buf m b' esz cap rows) : Buf M b' esz cap rows := by
  obtain ⟨row, hb', k⟩ := k
  exact ⟨row, by rw [h.2 _ hb, hb'], k⟩

theorem grown_but {m0 N N' : Mem} {b : Nat} (h : Grown m0 N) (k : But1 b N N') (hb : m0.bl.length ≤ b) : Grown m0 N' := by
  obtain ⟨l, h⟩ := h
  refine ⟨N'.bl.drop m0.bl.length, ?_⟩
  have : m0.bl = N'.bl.take m0.bl.length := by
    apply List.ext_getElem?
    intro i
    rw [List.getElem?_take]
    split
    · rename_i hi
      rw [k.2 i (by omega), h, List.getElem?_append_left hi]
    · rename_i hi
      rw [List.getElem?_eq_none (by omega)]
  calc N'.bl = N'.bl.take m0.bl.length ++ N'.bl.drop m0.bl.length := (List.take_append_drop ..).symm
    _ = m0.bl ++ N'.bl.drop m0.bl.length := by rw [← this]

theorem row_but {m M : Mem} {b : Nat} (h : But1 b m M) {x : Base} (hx : ∀ g, x ≠ .mem b g) : M.row G x = m.row G x := by
  cases x with
  | glob g => rfl
  | weak wk => rfl
  | mem k g =>
    have : k ≠ b := fun e => hx g (by rw [e])
    simp only [Mem.row, h.2 k this]
theorem getN_but {m M : Mem} {b : Nat} (h : But1 b m M) {a : Ad} (hx : ∀ g, a.base ≠ .mem b g) {n : Nat} : M.getN G a n = m.getN G a n := by
  unfold Mem.getN
  rw [row_but h hx]

/-- A slice made with room. -/
theorem buf_mk {N : Mem} {esz cap : Nat} {z : List EV} (hz : z.length = esz) (he : esz ≠ 0) : Buf (N.push (.cells (repE cap z) 0 true)) N.bl.length esz cap [] := by
  refine ⟨repE cap z, by simp [Mem.push], ?_, by simp, by simp, by simp⟩
  unfold repE
  split
  · simp at hz ⊢; subst hz; simp
  · rw [flat_len (esz := esz)]
    · simp
    · intro r hr
      rw [(List.mem_replicate.1 hr).2, hz]

theorem buf_append {m : Mem} {b esz bytes tag cap : Nat} {rows nr : List (List EV)} (h : Buf m b esz cap rows) (hn : ∀ r ∈ nr, r.length = esz) (hc : rows.length + nr.length ≤ cap) (he : esz ≠ 0) :
    ∃ m', appendE G m esz bytes tag (.slice (some ⟨.mem b 0, 0⟩) rows.length cap esz) nr.flatten nr.length = some (.slice (some ⟨.mem b 0, 0⟩) (rows.length + nr.length) cap esz, m') ∧ Buf m' b esz cap (rows ++ nr) ∧ But1 b m m' ∧ min m.low b ≤ m'.low := by
  have hlt := h.lt
  obtain ⟨row, hb, hr, hs, hl, ht⟩ := h
  by_cases h0 : nr.length = 0
  · have : nr = [] := List.length_eq_zero_iff.1 h0
    subst this
    refine ⟨m, ?_, ⟨row, hb, hr, by simpa using hs, by simpa using hl, by simpa using ht⟩, But1.rfl', by omega⟩
    simp [appendE, hl]
  · have hfl := flat_len hn
    have hle : rows.length * esz + nr.flatten.length ≤ row.length := by
      rw [hfl, hr, ← Nat.add_mul]
      exact Nat.mul_le_mul_right _ hc
    refine ⟨⟨m.bl.set b (.cells (splice row (rows.length * esz) nr.flatten) 0 true), min m.low b⟩, ?_, ?_, ?_, Nat.le_refl _⟩
    · simp only [appendE, ne_eq, not_true_eq_false, if_false, if_pos hc, if_neg h0, Mem.putN, Ad.plus, Mem.write, hb, Nat.zero_add, true_and, if_pos hle]
    · refine ⟨splice row (rows.length * esz) nr.flatten, by simp [hlt], ?_, ?_, by simpa using hc, ?_⟩
      · simp only [splice, List.length_append, List.length_take, List.length_drop]
        omega
      · intro r hr
        rcases List.mem_append.1 hr with hr | hr
        · exact hs r hr
        · exact hn r hr
      · have e1 : (rows ++ nr).length * esz = (rows.flatten ++ nr.flatten).length := by
          rw [← List.flatten_append, flat_len]
          intro r hr
          rcases List.mem_append.1 hr with hr | hr
          · exact hs r hr
          · exact hn r hr
        rw [e1]
        unfold splice
        rw [ht, List.take_left', List.flatten_append]
        rfl
    · refine ⟨by simp, fun j hj => ?_⟩
      simp only
      rw [List.getElem?_set_ne (by omega)]

/-- What a slice's rows are as one. -/
theorem whole_rows {m : Mem} {a : Ad} {esz : Nat} (he : esz ≠ 0) : ∀ (rows : List (List EV)), rows ≠ [] → (∀ (i : Nat) (r : List EV), rows[i]? = some r → m.getN G (a.plus (i * esz)) esz = some r) → m.getN G a (rows.length * esz) = some rows.flatten := by
  intro rows hne h
  obtain ⟨n, hn⟩ : ∃ n, rows.length = n + 1 := ⟨rows.length - 1, by have := List.length_pos_iff.2 hne; omega⟩
  have hlast := h n _ (List.getElem?_eq_getElem (by omega))
  unfold Mem.getN at hlast ⊢
  rw [if_neg he] at hlast
  rw [if_neg (by rw [hn, Nat.succ_mul]; omega)]
  cases hr : m.row G a.base with
  | none =>
    have : m.row G (a.plus (n * esz)).base = none := hr
    rw [this] at hlast
    cases hlast
  | some c =>
    have hr2 : ∀ k, m.row G (a.plus k).base = some c := fun _ => hr
    rw [hr2] at hlast
    simp only [Option.bind_some] at hlast ⊢
    by_cases hle : (a.plus (n * esz)).off + esz ≤ c.length
    · simp only [Ad.plus] at hle
      rw [if_pos (by rw [hn, Nat.succ_mul]; omega)]
      congr 1
      have hall : ∀ (i : Nat) (r : List EV), rows[i]? = some r → ((c.drop (a.off + i * esz)).take esz) = r := by
        intro i r hi
        have hil : i < rows.length := (List.getElem?_eq_some_iff.1 hi).1
        have := h i r hi
        unfold Mem.getN at this
        rw [if_neg he, hr2] at this
        simp only [Option.bind_some] at this
        have hb : (a.plus (i * esz)).off + esz ≤ c.length := by
          simp only [Ad.plus]
          have : i * esz ≤ n * esz := Nat.mul_le_mul_right _ (by omega)
          omega
        rw [if_pos hb] at this
        exact Option.some.inj this
      clear h hlast hn hne hle
      have gen : ∀ (l : List (List EV)) (o : Nat), (∀ (i : Nat) (r : List EV), l[i]? = some r → ((c.drop (o + i * esz)).take esz) = r) → (c.drop o).take (l.length * esz) = l.flatten := by
        intro l
        induction l with
        | nil => intro o _; simp
        | cons x l ih =>
          intro o hx
          have h0 := hx 0 x rfl
          simp only [Nat.zero_mul, Nat.add_zero] at h0
          have := ih (o + esz) fun i r hi => by
            have := hx (i + 1) r hi
            rw [Nat.succ_mul] at this
            rw [← this]
            congr 2
            omega
          rw [List.length_cons, Nat.succ_mul, Nat.add_comm, List.take_add, h0, List.drop_drop, this]
          rfl
      exact gen rows a.off hall
    · rw [if_neg hle] at hlast
      cases hlast

/-- A part of a row that is a row of equal parts. -/
theorem buf_get {m : Mem} {b esz cap : Nat} {rows : List (List EV)} (h : Buf m b esz cap rows) (he : esz ≠ 0) {i : Nat} {r : List EV} (hi : rows[i]? = some r) : m.getN G ⟨.mem b 0, i * esz⟩ esz = some r := by
  obtain ⟨row, hb, hr, hs, hl, ht⟩ := h
  obtain ⟨hil, hir⟩ := List.getElem?_eq_some_iff.1 hi
  have hle : i * esz + esz ≤ rows.length * esz := by
    rw [← Nat.succ_mul]
    exact Nat.mul_le_mul_right _ hil
  have hle2 : rows.length * esz ≤ cap * esz := Nat.mul_le_mul_right _ hl
  unfold Mem.getN
  rw [if_neg he]
  simp only [Mem.row, hb, if_true, Option.bind_some]
  rw [if_pos (by omega)]
  congr 1
  have gen : ∀ (l : List (List EV)) (i : Nat) (r : List EV), (∀ r ∈ l, r.length = esz) → l[i]? = some r → (l.flatten.drop (i * esz)).take esz = r := by
    intro l
    induction l with
    | nil => intro i r _ h; simp at h
    | cons x l ih =>
      intro i r hx hi
      have hxl := hx x (List.mem_cons_self ..)
      cases i with
      | zero =>
        simp at hi
        subst hi
        rw [← hxl]
        simp
      | succ i =>
        simp at hi
        have := ih i r (fun r hr => hx r (List.mem_cons_of_mem _ hr)) hi
        rw [List.flatten_cons, Nat.succ_mul, Nat.add_comm, ← List.drop_drop, ← hxl, List.drop_left, hxl]
        exact this
  have := gen rows i r hs hi
  rw [← ht, List.drop_take, List.take_take, Nat.min_eq_left (by omega)] at this
  exact this

/-! ### Rows that are written -/
theorem RowIs.lt {m : Mem} {b : Nat} {cs : List EV} (h : RowIs m b cs) : b < m.bl.length := (List.getElem?_eq_some_iff.1 h).1
theorem RowIs.grown {m M : Mem} (h : Grown m M) {b : Nat} {cs : List EV} (k : RowIs m b cs) : RowIs M b cs := by
  have hl := k.lt
  obtain ⟨l, h⟩ := h
  unfold RowIs at k ⊢
  rw [h, List.getElem?_append_left hl, k]
theorem RowIs.but {m M : Mem} {b b' : Nat} {cs : List EV} (h : But1 b m M) (hb : b' ≠ b) (k : RowIs m b' cs) : RowIs M b' cs := by
  unfold RowIs at k ⊢
  rw [h.2 _ hb, k]
theorem put1_row {m : Mem} {b off : Nat} {cs : List EV} {v : EV} (h : RowIs m b cs) (ho : off < cs.length) :
    ∃ m', m.put1 ⟨.mem b 0, off⟩ v = some m' ∧ RowIs m' b (cs.set off v) ∧ But1 b m m' ∧ m'.low = min m.low b := by
  have hlt := h.lt
  have hb : m.bl[b]? = some (.cells cs 0 true) := h
  refine ⟨⟨m.bl.set b (.cells (cs.set off v) 0 true), min m.low b⟩, ?_, ?_, ⟨by simp, fun j hj => ?_⟩, rfl⟩
  · simp only [Mem.put1, Mem.write, hb, true_and, if_pos (show off + 1 ≤ cs.length by omega)]
  · simp [RowIs, List.getElem?_set, hlt]
  · simp only
    rw [List.getElem?_set_ne (by omega)]
theorem putN_row {m : Mem} {b off : Nat} {cs vs : List EV} (h : RowIs m b cs) (ho : off + vs.length ≤ cs.length) :
    ∃ m', m.putN ⟨.mem b 0, off⟩ vs = some m' ∧ RowIs m' b (splice cs off vs) ∧ But1 b m m' ∧ m'.low = min m.low b := by
  have hlt := h.lt
  have hb : m.bl[b]? = some (.cells cs 0 true) := h
  refine ⟨⟨m.bl.set b (.cells (splice cs off vs) 0 true), min m.low b⟩, ?_, ?_, ⟨by simp, fun j hj => ?_⟩, rfl⟩
  · simp only [Mem.putN, Mem.write, hb, true_and, if_pos ho]
  · simp [RowIs, List.getElem?_set, hlt]
  · simp only
    rw [List.getElem?_set_ne (by omega)]
theorem But1.trans {b : Nat} {m m' m2 : Mem} (h : But1 b m m') (k : But1 b m' m2) : But1 b m m2 :=
  ⟨by rw [k.1, h.1], fun j hj => by rw [k.2 j hj, h.2 j hj]⟩

theorem leave_new {m M : Mem} {v : EV} (h : noref m.bl.length v = false) : leaveE m v M = ⟨M.bl, min m.low M.low⟩ := by
  simp only [leaveE, h, Bool.false_eq_true, and_false, if_false]

/-- As comes_ofM, where what it comes to is found on the way. -/
theorem comes_ofP {f : FuncId} {args : List EV} {m : Mem} {p : Option (Option EV)} {Φ : CR → Prop} {ef : EFunc} (hT : T f = some ef) (hp : ef.prim = none)
    (h : ∀ M, Grown m M → M.bl.length = m.bl.length → M.low = m.bl.length → wpC T G ef.body (fun ex s => ∃ r, postE G ef.res m r ex s ∧ Φ r) ⟨argsE args, M, [], p⟩) : ∃ r, Comes T G f args m p r ∧ Φ r  :=
  comes_ofQ hT hp (h _ Grown.begin rfl rfl)

theorem post_new {res : List ERes} {A : Fr} {m M : Mem} {v : EV} {p : Option (Option EV)} (hr : resultsE G A M res = some [v]) (hn : noref m.bl.length v = false) : postE G res m ⟨.val v, ⟨M.bl, min m.low M.low⟩, p⟩ .ret ⟨A, M, [], p⟩ :=
  ⟨rfl, [v], hr, by simp only [oneE, leave_new hn]⟩

/-- A slice lent: marks stand behind it in its room. Its block is one of those between two numbers. -/
def LentRows (G : Globs) (m : Mem) (n0 n1 esz : Nat) (v : EV) (rows : List (List EV)) (mark : List EV) : Prop :=
  ∃ k, n0 ≤ k ∧ k < n1 ∧ v = .slice (some ⟨.mem k 0, 0⟩) rows.length (rows.length + 70) esz ∧ ∀ (i : Nat) (r : List EV), (rows ++ List.replicate 70 mark)[i]? = some r → m.getN G ⟨.mem k 0, i * esz⟩ esz = some r
theorem LentRows.grown {m M : Mem} (h : Grown m M) {n0 n1 esz : Nat} {v : EV} {rows : List (List EV)} {mark : List EV} (k : LentRows G m n0 n1 esz v rows mark) : LentRows G M n0 n1 esz v rows mark := by
  obtain ⟨b, h1, h2, rfl, hx⟩ := k
  exact ⟨b, h1, h2, rfl, fun i r hi => getN_grown h (hx i r hi)⟩
theorem LentRows.but {m M : Mem} {b n0 n1 esz : Nat} (h : But1 b m M) (hb : b < n0 ∨ n1 ≤ b) {v : EV} {rows : List (List EV)} {mark : List EV} (k : LentRows G m n0 n1 esz v rows mark) : LentRows G M n0 n1 esz v rows mark := by
  obtain ⟨c, h1, h2, rfl, hx⟩ := k
  refine ⟨c, h1, h2, rfl, fun i r hi => ?_⟩
  rw [getN_but h (by intro g e; simp only [Base.mem.injEq] at e; omega)]
  exact hx i r hi
theorem LentRows.wide {m : Mem} {n0 n1 k0 k1 esz : Nat} (h0 : k0 ≤ n0) (h1 : n1 ≤ k1) {v : EV} {rows : List (List EV)} {mark : List EV} (k : LentRows G m n0 n1 esz v rows mark) : LentRows G m k0 k1 esz v rows mark := by
  obtain ⟨c, h2, h3, h4⟩ := k
  exact ⟨c, Nat.le_trans h0 h2, Nat.lt_of_lt_of_le h3 h1, h4⟩
theorem lent_of_buf {m : Mem} {n0 b esz : Nat} {rows : List (List EV)} {mark : List EV} (he : esz ≠ 0) (hb : n0 ≤ b) (h : Buf m b esz (rows.length + 70) (rows ++ List.replicate 70 mark)) : LentRows G m n0 m.bl.length esz (.slice (some ⟨.mem b 0, 0⟩) rows.length (rows.length + 70) esz) rows mark :=
  ⟨b, hb, h.lt, rfl, fun _ _ hi => buf_get h he hi⟩

/-! ### Rules for slices made and grown -/
theorem wpOps_mkSlice {esz bytes n t : Nat} {z : List EV} {l c : Opd} {os : List EOper} {Q : Ex → St → Prop} {A : Fr} {m : Mem} {d : List (FuncId × List EV)} {p : Option (Option EV)}
    (hl : opd A l = .int .i64 0) (hc : opd A c = .int .i64 (n : Nat)) (hb : bytes * n ≤ 281474976710656)
    (h : ∀ M, M = m.push (.cells (repE n z) 0 true) → wpOps T G os Q ⟨upd A t (.slice (some ⟨.mem m.bl.length 0, 0⟩) 0 n esz), M, d, p⟩) : wpOps T G (⟨some t, .mkSlice esz bytes z l c, none⟩ :: os) Q ⟨A, m, d, p⟩ := by
  refine wpOps_step rfl ?_
  simp only [stepE, evVal, hl, hc]
  rw [if_pos ⟨by omega, by omega, by have := Int.ofNat_le.2 hb; rw [Int.natCast_mul] at this; exact this⟩]
  exact h _ rfl
theorem wpOps_mklit {len esz t : Nat} {z cs : List EV} {ps : List (Nat × Nat × Opd)} {os : List EOper} {Q : Ex → St → Prop} {A : Fr} {m : Mem} {d : List (FuncId × List EV)} {p : Option (Option EV)}
    (hf : fillE z (parts A ps) = some cs)
    (h : ∀ M, M = m.push (.cells cs 0 true) → wpOps T G os Q ⟨upd A t (.slice (some ⟨.mem m.bl.length 0, 0⟩) len len esz), M, d, p⟩) : wpOps T G (⟨some t, .mklit len esz z ps, none⟩ :: os) Q ⟨A, m, d, p⟩ := by
  refine wpOps_step rfl ?_
  simp only [stepE, evVal, hf, Option.map_some]
  exact h _ rfl
theorem wpOps_append {esz bytes tag t n : Nat} {x y : Opd} {new : List EV} {v : EV} {m' : Mem} {os : List EOper} {Q : Ex → St → Prop} {A : Fr} {m : Mem} {d : List (FuncId × List EV)} {p : Option (Option EV)}
    (hs : srcCells G m esz (opd A y) = some (new, n)) (ha : appendE G m esz bytes tag (opd A x) new n = some (v, m'))
    (h : wpOps T G os Q ⟨upd A t v, m', d, p⟩) : wpOps T G (⟨some t, .append esz bytes tag x y, none⟩ :: os) Q ⟨A, m, d, p⟩ := by
  refine wpOps_step rfl ?_
  simp only [stepE, evVal, hs, ha]
  exact h
theorem wpD_mklit {n0 len esz t : Nat} {z cs : List EV} {ps : List (Nat × Nat × Opd)} {os : List EOper} {fl : List Bool} {Q : St → Prop} {A : Fr} {m : Mem} {d : List (FuncId × List EV)} {p : Option (Option EV)}
    (hf : fillE z (parts A ps) = some cs)
    (h : ∀ M, M = m.push (.cells cs 0 true) → wpD T G n0 os fl Q ⟨upd A t (.slice (some ⟨.mem m.bl.length 0, 0⟩) len len esz), M, d, p⟩) : wpD T G n0 (⟨some t, .mklit len esz z ps, none⟩ :: os) (false :: fl) Q ⟨A, m, d, p⟩ := by
  refine wpD_step rfl ?_
  simp only [stepE, evVal, hf, Option.map_some]
  exact h _ rfl
theorem wpD_append {n0 esz bytes tag t n : Nat} {x y : Opd} {new : List EV} {v : EV} {m' : Mem} {os : List EOper} {fl : List Bool} {Q : St → Prop} {A : Fr} {m : Mem} {d : List (FuncId × List EV)} {p : Option (Option EV)}
    (hs : srcCells G m esz (opd A y) = some (new, n)) (ha : appendE G m esz bytes tag (opd A x) new n = some (v, m'))
    (h : wpD T G n0 os fl Q ⟨upd A t v, m', d, p⟩) : wpD T G n0 (⟨some t, .append esz bytes tag x y, none⟩ :: os) (false :: fl) Q ⟨A, m, d, p⟩ := by
  refine wpD_step rfl ?_
  simp only [stepE, evVal, hs, ha]
  exact h
/-- A slice of one row, just made. -/
theorem src_lit {N M : Mem} {cs : List EV} {esz len cap : Nat} (e : M = N.push (.cells cs 0 true)) (hl : cs.length = len * esz) : srcCells G M esz (.slice (some ⟨.mem N.bl.length 0, 0⟩) len cap esz) = some (cs, len) := by
  subst e
  simp only [srcCells, getN_row (row_push N cs) (sub_all hl), Option.map_some]
theorem wpOps_build {t : Nat} {z cs : List EV} {ps : List (Nat × Nat × Opd)} {os : List EOper} {Q : Ex → St → Prop} {A : Fr} {m : Mem} {d : List (FuncId × List EV)} {p : Option (Option EV)}
    (hf : fillE z (parts A ps) = some cs) (h : wpOps T G os Q ⟨upd A t (.agg cs), m, d, p⟩) : wpOps T G (⟨some t, .build z ps, none⟩ :: os) Q ⟨A, m, d, p⟩ := by
  refine wpOps_step rfl ?_
  simp only [stepE, evVal, hf, Option.map_some]
  exact h
theorem wpD_build {n0 t : Nat} {z cs : List EV} {ps : List (Nat × Nat × Opd)} {os : List EOper} {fl : List Bool} {Q : St → Prop} {A : Fr} {m : Mem} {d : List (FuncId × List EV)} {p : Option (Option EV)}
    (hf : fillE z (parts A ps) = some cs) (h : wpD T G n0 os fl Q ⟨upd A t (.agg cs), m, d, p⟩) : wpD T G n0 (⟨some t, .build z ps, none⟩ :: os) (true :: fl) Q ⟨A, m, d, p⟩ := by
  refine wpD_float rfl ?_
  simp only [stepE, evVal, hf, Option.map_some]
  exact h
theorem wpD_ifbuild {n0 t : Nat} {z cs : List EV} {ps : List (Nat × Nat × Opd)} {j : Nat} {w c : Bool} {os : List EOper} {fl : List Bool} {Q : St → Prop} {A : Fr} {m : Mem} {d : List (FuncId × List EV)} {p : Option (Option EV)}
    (hj : wantedE A (some (j, w)) = c) (hf : c = true → fillE z (parts A ps) = some cs) (h : wpD T G n0 os fl Q ⟨upd A t (if c = true then .agg cs else undefE), m, d, p⟩) : wpD T G n0 (⟨some t, .build z ps, some (j, w)⟩ :: os) (true :: fl) Q ⟨A, m, d, p⟩ :=
  wpD_iffloat hj (fun _ => rfl) (fun hc => by simp only [evVal, hf hc, Option.map_some]) h
theorem fill_all {z cs : List EV} {v : EV} {n : Nat} (hv : v = .agg cs) (hn : cs.length = n) (hz : z.length = n) : fillE z [(0, n, v)] = some cs := by
  subst hv
  simp only [fillE, EV.cells, hn, hz, single, Nat.zero_add, Nat.le_refl, and_self, if_true, splice_all (hn.trans hz.symm)]
theorem fill_two {z c1 c2 : List EV} {v1 v2 : EV} {n1 n2 : Nat} (h1 : v1 = .agg c1) (h2 : v2 = .agg c2) (hn1 : c1.length = n1) (hn2 : c2.length = n2) (hz : z.length = n1 + n2) : fillE z [(0, n1, v1), (n1, n2, v2)] = some (c1 ++ c2) := by
  subst h1
  subst h2
  have hl : (splice z 0 c1).length = n1 + n2 := by simp [splice]; omega
  simp only [fillE, EV.cells, hn1, hn2, single, Nat.zero_add, hz, hl, Nat.le_refl, and_self, and_true, true_and, if_true, show n1 ≤ n1 + n2 by omega]
  congr 1
  have h3 : z.take 0 ++ c1 ++ z.drop (0 + c1.length) = c1 ++ z.drop c1.length := by simp
  simp only [splice]
  rw [h3]
  subst hn1
  rw [List.take_left' rfl, List.drop_eq_nil_of_le (by simp; omega), List.append_nil]
/-- A region whose order is drawn, all of it behind the cut, that writes nothing old. -/
theorem wpC_regDz {os : List EOper} {fl : List Bool} {Q : Ex → St → Prop} {A : Fr} {m : Mem} {d : List (FuncId × List EV)}
    (h : wpD T G m.bl.length os fl (fun s' => m.bl.length ≤ s'.m.low ∧ Q .normal { s' with m := ⟨s'.m.bl, m.low⟩ }) ⟨A, ⟨m.bl, m.bl.length⟩, d, none⟩) : wpC T G (.regD os fl 0) Q ⟨A, m, d, none⟩ := by
  unfold wpD at h
  obtain ⟨k, s', he, hl, hQ⟩ := h
  refine wpC_regD2 (wpD_nil ⟨Nat.le_refl _, ?_⟩)
  unfold wpD
  refine ⟨k, s', he, ?_⟩
  have e : lowD m s'.m = m.low := if_pos hl
  show Q .normal { s' with m := ⟨s'.m.bl, lowD m s'.m⟩ }
  rw [e]
  exact hQ
end Go.Ev
