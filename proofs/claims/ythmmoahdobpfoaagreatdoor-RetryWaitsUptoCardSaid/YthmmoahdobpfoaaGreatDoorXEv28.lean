/- The engine, part 28: slices that grow by append from nil on. There are no conditions. -/
import Derived.Test.YthmmoahdobpfoaaGreatDoorXEv27
set_option linter.unusedSimpArgs false
set_option linter.unusedSectionVars false
set_option linter.unusedVariables false
namespace Go.Ev
variable {G : Globs}

theorem grown_of {m N : Mem} (hl : m.bl.length ≤ N.bl.length) (h : ∀ j, j < m.bl.length → N.bl[j]? = m.bl[j]?) : Grown m N := by
  refine ⟨N.bl.drop m.bl.length, ?_⟩
  have : m.bl = N.bl.take m.bl.length := by
    apply List.ext_getElem?
    intro q
    rw [List.getElem?_take]
    split
    · rename_i hq
      rw [h q hq]
    · rename_i hq
      rw [List.getElem?_eq_none (by omega)]
  calc N.bl = N.bl.take m.bl.length ++ N.bl.drop m.bl.length := (List.take_append_drop ..).symm
    _ = m.bl ++ N.bl.drop m.bl.length := by rw [← this]
theorem Grown.at {m N : Mem} (h : Grown m N) {j : Nat} (hj : j < m.bl.length) : N.bl[j]? = m.bl[j]? := by
  obtain ⟨l, e⟩ := h
  rw [e, List.getElem?_append_left hj]

/-- Counts of growths that a row may begin with. -/
def TagOk (tag : Nat) : Prop := tag = 0 ∨ ∃ j, 0 < j ∧ tag = typeK * j + 1
theorem tagOk_0 : TagOk 0 := .inl rfl
theorem tag_step {tag g : Nat} (h : TagOk tag) (hg : g < 1099511627000) :
    (tag + g + 1) / typeK = (tag + g) / typeK ∧ (tag + g < typeK ∨ tag / typeK = (tag + g) / typeK ∧ (tag + g) % typeK ≠ 0) := by
  rcases h with rfl | ⟨j, _, rfl⟩
  · simp only [typeK]
    omega
  · simp only [typeK]
    omega

/-- A slice that grew from nil: its block (if any), its cells, its length. -/
def OwnK (k : Option Nat) (esz tag : Nat) (m : Mem) (v : EV) (rows : List EV) (len : Nat) : Prop := match k with
  | none => v = .slice none 0 0 0 ∧ rows = [] ∧ len = 0
  | some k => ∃ g, g < len ∧ v = .slice (some ⟨.mem k (tag + g), 0⟩) len len esz ∧ rows.length = len * esz ∧ m.bl[k]? = some (.cells rows (tag + g) true)
theorem OwnK.nil {esz tag : Nat} {m : Mem} : OwnK none esz tag m (.slice none 0 0 0) [] 0 := ⟨rfl, rfl, rfl⟩
theorem OwnK.keep {k : Option Nat} {esz tag : Nat} {m m' : Mem} {v : EV} {rows : List EV} {len : Nat} (h : OwnK k esz tag m v rows len) (hk : ∀ j, k = some j → m'.bl[j]? = m.bl[j]?) : OwnK k esz tag m' v rows len := by
  cases k with
  | none => exact h
  | some k =>
    obtain ⟨g, h1, h2, h3, h4⟩ := h
    exact ⟨g, h1, h2, h3, by rw [hk k rfl]; exact h4⟩
theorem OwnK.lt {j esz tag : Nat} {m : Mem} {v : EV} {rows : List EV} {len : Nat} (h : OwnK (some j) esz tag m v rows len) : j < m.bl.length := by
  obtain ⟨g, _, _, _, h4⟩ := h
  exact (List.getElem?_eq_some_iff.1 h4).1
theorem OwnK.grown {k : Option Nat} {esz tag : Nat} {m m' : Mem} {v : EV} {rows : List EV} {len : Nat} (h : OwnK k esz tag m v rows len) (hg : Grown m m') : OwnK k esz tag m' v rows len :=
  h.keep fun j hj => by subst hj; exact hg.at h.lt
theorem OwnK.size {k : Option Nat} {esz tag : Nat} {m : Mem} {v : EV} {rows : List EV} {len : Nat} (h : OwnK k esz tag m v rows len) : rows.length = len * esz := by
  cases k with
  | none => obtain ⟨_, rfl, rfl⟩ := h; simp
  | some k => obtain ⟨g, _, _, h3, _⟩ := h; exact h3
theorem OwnK.row {k : Option Nat} {esz tag : Nat} {m : Mem} {v : EV} {rows : List EV} {len : Nat} (h : OwnK k esz tag m v rows len) :
    v = .slice none 0 0 0 ∧ rows = [] ∧ len = 0 ∨ ∃ j g, k = some j ∧ v = .slice (some ⟨.mem j (tag + g), 0⟩) len len esz ∧ len ≠ 0 ∧ ∀ (G : Globs) (o n : Nat) (cs : List EV), Sub rows o n cs → m.getN G ⟨.mem j (tag + g), o⟩ n = some cs := by
  cases k with
  | none => exact .inl h
  | some k =>
    obtain ⟨g, h1, h2, h3, h4⟩ := h
    refine .inr ⟨k, g, rfl, h2, by omega, fun G o n cs hs => ?_⟩
    obtain ⟨s1, s2⟩ := hs
    unfold Mem.getN
    split
    · rename_i h0
      subst h0
      simp at s2
      rw [s2]
    · simp only [Mem.row, h4, if_true, Option.bind_some, if_pos s1, s2]
theorem OwnK.slice {k : Option Nat} {esz tag : Nat} {m : Mem} {v : EV} {rows : List EV} {len : Nat} (h : OwnK k esz tag m v rows len) : ∃ a c e, v = .slice a len c e := by
  rcases h.row with ⟨rfl, _, rfl⟩ | ⟨j, g, _, rfl, _⟩
  · exact ⟨none, 0, 0, rfl⟩
  · exact ⟨_, _, _, rfl⟩
/-- Its length. -/
theorem OwnK.len {k : Option Nat} {esz tag : Nat} {m : Mem} {v : EV} {rows : List EV} {len : Nat} (h : OwnK k esz tag m v rows len) : lnbE v = some (.int .i64 len) := by
  rcases h.row with ⟨rfl, _, rfl⟩ | ⟨j, g, _, rfl, _⟩ <;> rfl
/-- Its bytes as a text. -/
theorem OwnK.tos {k : Option Nat} {tag : Nat} {m : Mem} {v : EV} {s : List UInt8} {n : Nat} (h : OwnK k 1 tag m v (bytesE s) n) : tosE G m v = some (.str s) := by
  have hs := h.size
  rw [bytes_len, Nat.mul_one] at hs
  subst hs
  rcases h.row with ⟨rfl, h2, h3⟩ | ⟨j, g, _, rfl, _, hr⟩
  · have : s = [] := List.length_eq_zero_iff.1 h3
    subst this
    rfl
  · simp only [tosE, hr G 0 s.length (bytesE s) (sub_all bytes_len), Option.bind_some, strE_of, Option.map_some]
/-- Its cells, as what another slice is made to grow by. -/
theorem OwnK.src {k : Option Nat} {esz tag : Nat} {m : Mem} {v : EV} {rows : List EV} {len : Nat} (h : OwnK k esz tag m v rows len) : srcCells G m esz v = some (rows, len) := by
  have hs := h.size
  rcases h.row with ⟨rfl, rfl, rfl⟩ | ⟨j, g, _, rfl, _, hr⟩
  · rfl
  · simp only [srcCells, hr G 0 (len * esz) rows (sub_all hs), Option.map_some]

theorem own_app {k : Option Nat} {esz bytes tag cnt : Nat} {m : Mem} {v : EV} {rows new : List EV} {len : Nat} (h : OwnK k esz tag m v rows len) (ht : TagOk tag) (hb : bytes ≠ 0) (hn : new.length = cnt * esz) (hc : cnt ≠ 0) (hs : (len + cnt) * bytes ≤ 1000000000000) :
    ∃ v' m' k', appendE G m esz bytes tag v new cnt = some (v', m') ∧ OwnK (some k') esz tag m' v' (rows ++ new) (len + cnt) ∧ (k = some k' ∨ k = none ∧ k' = m.bl.length) ∧ (∀ j, j < m.bl.length → some j ≠ k → m'.bl[j]? = m.bl[j]?) ∧ m.bl.length ≤ m'.bl.length ∧ min m.low k' ≤ m'.low := by
  have hle : len + cnt ≤ (len + cnt) * bytes := Nat.le_mul_of_pos_right _ (Nat.pos_of_ne_zero hb)
  cases k with
  | none =>
    obtain ⟨rfl, rfl, rfl⟩ := h
    rw [Nat.zero_add] at hs hle
    refine ⟨.slice (some ⟨.mem m.bl.length tag, 0⟩) cnt cnt esz, m.push (.cells new tag true), m.bl.length, ?_, ⟨0, by omega, by simp, by simpa using hn, ?_⟩, .inr ⟨rfl, rfl⟩, ?_, ?_, ?_⟩
    · simp only [appendE, if_neg hc]
      rw [if_pos (by omega)]
    · simp [Mem.push]
    · intro j hj _
      simp only [Mem.push, List.getElem?_append_left hj]
    · simp [Mem.push]
    · simp only [Mem.push]; omega
  | some k =>
    obtain ⟨g, hg, rfl, hr, hk⟩ := h
    have hklt : k < m.bl.length := (List.getElem?_eq_some_iff.1 hk).1
    obtain ⟨t1, t2⟩ := tag_step (g := g) ht (by omega)
    refine ⟨.slice (some ⟨.mem k (tag + g + 1), 0⟩) (len + cnt) (len + cnt) esz, ⟨m.bl.set k (.cells (rows ++ new) (tag + g + 1) true), min m.low k⟩, k, ?_, ⟨g + 1, by omega, by simp [Nat.add_assoc], by rw [List.length_append, hr, hn, Nat.add_mul], ?_⟩, .inl rfl, ?_, ?_, ?_⟩
    · simp only [appendE, growE, ne_eq, not_true_eq_false, if_false]
      rw [if_neg (by omega), if_pos (by omega)]
      simp only [hk, Nat.zero_add]
      rw [if_pos ⟨trivial, by omega, t1, by rcases t2 with t2 | ⟨t2, t3⟩; exact .inl t2; exact .inr ⟨t2, t3, trivial⟩⟩]
      simp only [List.drop_zero, Option.some.injEq, Prod.mk.injEq]
      refine ⟨trivial, ?_⟩
      rw [← hr, List.take_length]
    · simp only [List.getElem?_set, if_true, hklt]
      rfl
    · intro j hj hjk
      simp only
      rw [List.getElem?_set_ne (show k ≠ j from fun e => hjk (by rw [e]))]
    · simp
    · simp only; omega

/-- A private slice: its block, if any, is not below n0. -/
def Own (n0 esz tag : Nat) (m : Mem) (v : EV) (rows : List EV) (len : Nat) : Prop := ∃ k, (∀ j, k = some j → n0 ≤ j) ∧ OwnK k esz tag m v rows len
theorem Own.nil {n0 esz tag : Nat} {m : Mem} : Own n0 esz tag m (.slice none 0 0 0) [] 0 := ⟨none, (fun _ h => by cases h), OwnK.nil⟩
theorem Own.grown {n0 esz tag : Nat} {m m' : Mem} {v : EV} {rows : List EV} {len : Nat} (h : Own n0 esz tag m v rows len) (hg : Grown m m') : Own n0 esz tag m' v rows len :=
  let ⟨k, h1, h2⟩ := h; ⟨k, h1, h2.grown hg⟩
theorem Own.tos {n0 tag n : Nat} {m : Mem} {v : EV} {s : List UInt8} (h : Own n0 1 tag m v (bytesE s) n) : tosE G m v = some (.str s) :=
  let ⟨_, _, h⟩ := h; h.tos
theorem Own.len {n0 esz tag : Nat} {m : Mem} {v : EV} {rows : List EV} {len : Nat} (h : Own n0 esz tag m v rows len) : lnbE v = some (.int .i64 len) :=
  let ⟨_, _, h⟩ := h; h.len
theorem Own.slice {n0 esz tag : Nat} {m : Mem} {v : EV} {rows : List EV} {len : Nat} (h : Own n0 esz tag m v rows len) : ∃ a c e, v = .slice a len c e :=
  let ⟨_, _, h⟩ := h; h.slice
theorem Own.src {n0 esz tag : Nat} {m : Mem} {v : EV} {rows : List EV} {len : Nat} (h : Own n0 esz tag m v rows len) : srcCells G m esz v = some (rows, len) :=
  let ⟨_, _, h⟩ := h; h.src
theorem Own.size {n0 esz tag : Nat} {m : Mem} {v : EV} {rows : List EV} {len : Nat} (h : Own n0 esz tag m v rows len) : rows.length = len * esz :=
  let ⟨_, _, h⟩ := h; h.size
/-- What stays, when private memory alone is changed. -/
def Stays (n0 : Nat) (m m' : Mem) : Prop := (∀ m0 : Mem, m0.bl.length ≤ n0 → Grown m0 m → Grown m0 m') ∧ (n0 ≤ m.low → n0 ≤ m'.low) ∧ m.bl.length ≤ m'.bl.length
theorem Stays.refl {n0 : Nat} {m : Mem} : Stays n0 m m := ⟨fun _ _ h => h, fun h => h, Nat.le_refl _⟩
theorem Stays.trans {n0 : Nat} {a b c : Mem} (h : Stays n0 a b) (k : Stays n0 b c) : Stays n0 a c := ⟨fun m0 h0 hg => k.1 m0 h0 (h.1 m0 h0 hg), fun hl => k.2.1 (h.2.1 hl), Nat.le_trans h.2.2 k.2.2⟩
theorem Stays.push {n0 : Nat} {m : Mem} {x : Blk} : Stays n0 m (m.push x) := ⟨fun _ _ h => h.push, fun h => h, by simp [Mem.push]⟩
theorem Stays.of {n0 : Nat} {m m' : Mem} (hl : m.bl.length ≤ m'.bl.length) (h : ∀ j, j < n0 → j < m.bl.length → m'.bl[j]? = m.bl[j]?) (hw : n0 ≤ m.low → n0 ≤ m'.low) : Stays n0 m m' :=
  ⟨fun m0 h0 hg => grown_of (Nat.le_trans hg.le hl) fun j hj => by rw [h j (by omega) (by have := hg.le; omega), hg.at hj], hw, hl⟩
theorem own_app' {n0 esz bytes tag cnt : Nat} {m : Mem} {v : EV} {rows new : List EV} {len : Nat} (h : Own n0 esz tag m v rows len) (h0 : n0 ≤ m.bl.length) (ht : TagOk tag) (hb : bytes ≠ 0) (hn : new.length = cnt * esz) (hc : cnt ≠ 0) (hs : (len + cnt) * bytes ≤ 1000000000000) :
    ∃ v' m', appendE G m esz bytes tag v new cnt = some (v', m') ∧ Own n0 esz tag m' v' (rows ++ new) (len + cnt) ∧ Stays n0 m m' := by
  obtain ⟨k, hk, ho⟩ := h
  obtain ⟨v', m', k', ha, ho', hkk, hj, hl, hw⟩ := own_app (G := G) ho ht hb hn hc hs
  have hk' : n0 ≤ k' := by
    rcases hkk with h | ⟨_, h⟩
    · exact hk _ h
    · omega
  refine ⟨v', m', ha, ⟨some k', fun j hj => by cases hj; exact hk', ho'⟩, Stays.of hl (fun j h1 h2 => hj j h2 fun e => ?_) (fun h => by omega)⟩
  have := hk j e.symm
  omega
/-- A slice grown by a literal. -/
theorem own_lit {n0 esz bytes tag cnt : Nat} {N M : Mem} {v : EV} {rows new : List EV} {len : Nat} (h : Own n0 esz tag N v rows len) (e : M = N.push (.cells new 0 true)) (h0 : n0 ≤ N.bl.length) (ht : TagOk tag) (hb : bytes ≠ 0) (hn : new.length = cnt * esz) (hc : cnt ≠ 0) (hs : (len + cnt) * bytes ≤ 1000000000000) :
    RowIs M N.bl.length new ∧ ∃ v' m', appendE G M esz bytes tag v new cnt = some (v', m') ∧ Own n0 esz tag m' v' (rows ++ new) (len + cnt) ∧ Stays n0 N m' := by
  subst e
  obtain ⟨v', m', ha, ho, hst⟩ := own_app' (G := G) (h.grown Grown.rfl'.push) (by simp [Mem.push]; omega) ht hb hn hc hs
  exact ⟨row_push _ _, v', m', ha, ho, Stays.push.trans hst⟩

/-! ### Rows of any count of growths -/
def RowG (m : Mem) (b g : Nat) (cs : List EV) : Prop := m.bl[b]? = some (.cells cs g true)
theorem RowG.lt {m : Mem} {b g : Nat} {cs : List EV} (h : RowG m b g cs) : b < m.bl.length := (List.getElem?_eq_some_iff.1 h).1
theorem RowG.get {m : Mem} {b g : Nat} {cs : List EV} (h : RowG m b g cs) (o : Nat) : m.get G ⟨.mem b g, o⟩ = cs[o]? := by
  have h : m.bl[b]? = some (.cells cs g true) := h
  simp only [Mem.get, Mem.row, h, if_true, Option.bind_some]
theorem RowG.put1 {m : Mem} {b g off : Nat} {cs : List EV} {v : EV} (h : RowG m b g cs) (ho : off < cs.length) :
    ∃ m', m.put1 ⟨.mem b g, off⟩ v = some m' ∧ RowG m' b g (cs.set off v) ∧ But1 b m m' ∧ m'.low = min m.low b := by
  have hlt := h.lt
  have hb : m.bl[b]? = some (.cells cs g true) := h
  refine ⟨⟨m.bl.set b (.cells (cs.set off v) g true), min m.low b⟩, ?_, ?_, ⟨by simp, fun j hj => ?_⟩, rfl⟩
  · simp only [Mem.put1, Mem.write, hb, true_and, if_pos (show off + 1 ≤ cs.length by omega)]
  · simp [RowG, hlt]
  · simp only
    rw [List.getElem?_set_ne (by omega)]
theorem RowG.but {m M : Mem} {b b' g : Nat} {cs : List EV} (h : But1 b m M) (hb : b' ≠ b) (k : RowG m b' g cs) : RowG M b' g cs := by
  unfold RowG at k ⊢
  rw [h.2 _ hb, k]
theorem RowG.same {m M : Mem} {b g : Nat} {cs : List EV} (k : RowG m b g cs) (h : M.bl = m.bl) : RowG M b g cs := by
  unfold RowG at k ⊢
  rw [h, k]
theorem begin_bl {m M : Mem} (h : Grown m M) (hl : M.bl.length = m.bl.length) : M.bl = m.bl := by
  obtain ⟨l, e⟩ := h
  rw [e] at hl ⊢
  have : l = [] := List.length_eq_zero_iff.1 (by simpa using hl)
  rw [this, List.append_nil]
theorem Stays.but {n0 b : Nat} {m m' : Mem} (h : But1 b m m') (hb : n0 ≤ b) (hw : n0 ≤ m.low → n0 ≤ m'.low) : Stays n0 m m' :=
  Stays.of (by rw [h.1]; omega) (fun j hj _ => h.2 j (by omega)) hw
/-- What a call leaves that wrote something old. -/
theorem postX_wrote {res : List ERes} {A : Fr} {m M : Mem} {v : EV} {p : Po} {Φ : CR → Prop} (hr : (resultsE G A M res).map oneE = some v) (hl : M.low < m.bl.length) (h : Φ ⟨.val v, ⟨M.bl, min m.low M.low⟩, p⟩) : postX G res m Φ .ret ⟨A, M, [], p⟩ := by
  cases hq : resultsE G A M res with
  | none => rw [hq] at hr; cases hr
  | some vs =>
    rw [hq] at hr
    simp only [Option.map_some, Option.some.injEq] at hr
    subst hr
    refine ⟨_, ⟨rfl, vs, hq, ?_⟩, h⟩
    simp only [leaveE]
    rw [if_neg (by omega)]
theorem postX_wroteN {res : List ERes} {A : Fr} {m M : Mem} {v : EV} {p : Po} {Φ : CR → Prop} (hr : (resultsE G A M res).map oneE = some v) (hl : M.low < m.bl.length) (h : Φ ⟨.val v, ⟨M.bl, min m.low M.low⟩, p⟩) : postX G res m Φ .normal ⟨A, M, [], p⟩ :=
  postX_wrote (A := A) hr hl h
/-- What a call leaves that tells of new memory. -/
theorem postX_new {res : List ERes} {A : Fr} {m M : Mem} {v : EV} {p : Po} {Φ : CR → Prop} (hr : (resultsE G A M res).map oneE = some v) (hn : noref m.bl.length v = false) (h : Φ ⟨.val v, ⟨M.bl, min m.low M.low⟩, p⟩) : postX G res m Φ .ret ⟨A, M, [], p⟩ := by
  cases hq : resultsE G A M res with
  | none => rw [hq] at hr; cases hr
  | some vs =>
    rw [hq] at hr
    simp only [Option.map_some, Option.some.injEq] at hr
    subst hr
    refine ⟨_, ⟨rfl, vs, hq, ?_⟩, h⟩
    simp only [leave_new hn]
/-- What a call leaves that wrote nothing old and tells of nothing new. -/
theorem postX_same {res : List ERes} {A : Fr} {m M : Mem} {v : EV} {p : Po} {Φ : CR → Prop} (hr : (resultsE G A M res).map oneE = some v) (hl : m.bl.length ≤ M.low) (hn : noref m.bl.length v = true) (h : Φ ⟨.val v, m, p⟩) : postX G res m Φ .ret ⟨A, M, [], p⟩ := by
  cases hq : resultsE G A M res with
  | none => rw [hq] at hr; cases hr
  | some vs =>
    rw [hq] at hr
    simp only [Option.map_some, Option.some.injEq] at hr
    subst hr
    refine ⟨_, ⟨rfl, vs, hq, ?_⟩, h⟩
    rw [leave_keep hl hn]
theorem postX_sameN {res : List ERes} {A : Fr} {m M : Mem} {v : EV} {p : Po} {Φ : CR → Prop} (hr : (resultsE G A M res).map oneE = some v) (hl : m.bl.length ≤ M.low) (hn : noref m.bl.length v = true) (h : Φ ⟨.val v, m, p⟩) : postX G res m Φ .normal ⟨A, M, [], p⟩ :=
  postX_same (A := A) hr hl hn h
/-- Nothing changes but block b, block k (if any), and what is new. -/
def Edit (b : Nat) (k : Option Nat) (m m' : Mem) : Prop := (∀ j, j < m.bl.length → j ≠ b → some j ≠ k → m'.bl[j]? = m.bl[j]?) ∧ m.bl.length ≤ m'.bl.length ∧ ∀ n0, n0 ≤ m.low → n0 ≤ b → n0 ≤ m.bl.length → (∀ j, k = some j → n0 ≤ j) → n0 ≤ m'.low
theorem Edit.stays {b n0 : Nat} {k : Option Nat} {m m' : Mem} (h : Edit b k m m') (hb : n0 ≤ b) (hm : n0 ≤ m.bl.length) (hk : ∀ j, k = some j → n0 ≤ j) : Stays n0 m m' :=
  Stays.of h.2.1 (fun j h1 h2 => h.1 j h2 (by omega) fun e => by have := hk j e.symm; omega) fun hl => h.2.2 n0 hl hb hm hk
theorem Edit.row {b q : Nat} {k : Option Nat} {m m' : Mem} {cs : List EV} (h : Edit b k m m') (hq : RowIs m q cs) (h1 : q ≠ b) (h2 : some q ≠ k) : RowIs m' q cs := by
  unfold RowIs
  rw [h.1 q hq.lt h1 h2]
  exact hq
theorem Stays.grown {n0 : Nat} {a m m' : Mem} (h : Stays n0 m m') (hg : Grown a m) (ha : a.bl.length ≤ n0) : Grown a m' := h.1 a ha hg
end Go.Ev
