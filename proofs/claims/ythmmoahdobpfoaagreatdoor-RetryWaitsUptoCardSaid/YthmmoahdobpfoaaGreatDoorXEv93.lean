/- The engine, part 93: what lies in blocks that nothing leads to does not matter: a run in which they are dead is a run whatever they hold. There are no conditions. -/
import Derived.Test.YthmmoahdobpfoaaGreatDoorXEv16
set_option linter.unusedSectionVars false
set_option linter.unusedVariables false
set_option linter.unusedSimpArgs false
namespace Go.Ev
variable {G : Globs} {F : Nat → Option Blk}

/-- Memory with some blocks laid over. -/
def fill (F : Nat → Option Blk) (m : Mem) : Mem := ⟨m.bl.mapIdx fun b x => (F b).getD x, m.low⟩
/-- These blocks are dead. -/
def Dead (F : Nat → Option Blk) (m : Mem) : Prop := ∀ b, (F b).isSome = true → ∃ g, m.bl[b]? = some (.dead g)

theorem fill_len (m : Mem) : (fill F m).bl.length = m.bl.length := by simp [fill]
theorem fill_low (m : Mem) : (fill F m).low = m.low := rfl
theorem fill_get (m : Mem) (b : Nat) : (fill F m).bl[b]? = (m.bl[b]?).map fun x => (F b).getD x := by simp [fill]
theorem Dead.out {m : Mem} (h : Dead F m) {b : Nat} {x : Blk} (hb : m.bl[b]? = some x) (hx : ∀ g, x ≠ .dead g) : F b = none := by
  cases hf : F b with
  | none => rfl
  | some y =>
    obtain ⟨g, hg⟩ := h b (by rw [hf]; rfl)
    rw [hb] at hg
    exact absurd (Option.some.inj hg) (hx g)
theorem Dead.at {m : Mem} (h : Dead F m) {b : Nat} {x : Blk} (hb : m.bl[b]? = some x) (hx : ∀ g, x ≠ .dead g) : (fill F m).bl[b]? = some x := by
  rw [fill_get, hb, h.out hb hx]
  rfl
theorem Dead.lt {m : Mem} (h : Dead F m) {b : Nat} (hb : m.bl.length ≤ b) : F b = none := by
  cases hf : F b with
  | none => rfl
  | some y =>
    obtain ⟨g, hg⟩ := h b (by rw [hf]; rfl)
    rw [List.getElem?_eq_none hb] at hg
    cases hg
theorem Dead.push {m : Mem} (h : Dead F m) (x : Blk) : Dead F (m.push x) := fun b hb => by
  obtain ⟨g, hg⟩ := h b hb
  exact ⟨g, by simp only [Mem.push]; rw [List.getElem?_append_left (List.getElem?_eq_some_iff.1 hg).1, hg]⟩
theorem Dead.bl {m m' : Mem} (h : Dead F m) (e : m'.bl = m.bl) : Dead F m' := fun b hb => by
  obtain ⟨g, hg⟩ := h b hb
  exact ⟨g, by rw [e, hg]⟩
theorem Dead.set {m : Mem} (h : Dead F m) {b : Nat} (hb : F b = none) (y : Blk) (l : Nat) : Dead F ⟨m.bl.set b y, l⟩ := fun c hc => by
  obtain ⟨g, hg⟩ := h c hc
  refine ⟨g, ?_⟩
  simp only
  rw [List.getElem?_set_ne (fun e => by subst e; rw [hb] at hc; cases hc), hg]
theorem fill_push {m : Mem} (h : Dead F m) (x : Blk) : (fill F m).push x = fill F (m.push x) := by
  have : F m.bl.length = none := h.lt (Nat.le_refl _)
  simp only [fill, Mem.push, List.mapIdx_append, List.mapIdx_cons, List.mapIdx_nil, Nat.zero_add, this, Option.getD_none]
theorem fill_set {m : Mem} {b : Nat} (hb : F b = none) (y : Blk) (l : Nat) : (⟨(fill F m).bl.set b y, l⟩ : Mem) = fill F ⟨m.bl.set b y, l⟩ := by
  simp only [fill, Mem.mk.injEq, and_true]
  apply List.ext_getElem?
  intro c
  simp only [List.getElem?_set, List.getElem?_mapIdx, List.length_mapIdx]
  by_cases e : b = c
  · subst e
    simp only [if_true, hb, Option.getD_none]
    split <;> rfl
  · simp only [if_neg e]
theorem fill_fresh (m : Mem) : (fill F m).fresh = m.fresh := by simp [Mem.fresh, fill_len]
theorem fill_row {m : Mem} (h : Dead F m) {b : Base} {cs : List EV} (hr : m.row G b = some cs) : (fill F m).row G b = some cs := by
  unfold Mem.row at hr ⊢
  cases b with
  | glob g => exact hr
  | weak w => cases hr
  | mem b gen =>
    simp only at hr ⊢
    split at hr
    · rename_i cs' g' rw' hb
      rw [h.at hb (fun g e => by cases e)]
      exact hr
    · cases hr
theorem fill_getv {m : Mem} (h : Dead F m) {a : Ad} {v : EV} (hr : m.get G a = some v) : (fill F m).get G a = some v := by
  unfold Mem.get at hr ⊢
  obtain ⟨cs, h1, h2⟩ := Option.bind_eq_some_iff.1 hr
  rw [fill_row h h1]
  exact h2
theorem fill_getN {m : Mem} (h : Dead F m) {a : Ad} {n : Nat} {cs : List EV} (hr : m.getN G a n = some cs) : (fill F m).getN G a n = some cs := by
  unfold Mem.getN at hr ⊢
  split
  · rename_i h0
    rw [if_pos h0] at hr
    exact hr
  · rename_i h0
    rw [if_neg h0] at hr
    obtain ⟨c, h1, h2⟩ := Option.bind_eq_some_iff.1 hr
    rw [fill_row h h1]
    exact h2
theorem fill_write {m m' : Mem} (h : Dead F m) {b : Base} {need : Nat} {x : List EV → List EV} (hw : m.write b need x = some m') : (fill F m).write b need x = some (fill F m') ∧ Dead F m' := by
  unfold Mem.write at hw ⊢
  cases b with
  | glob g => cases hw
  | weak w =>
    simp only at hw ⊢
    split at hw
    · rename_i hn
      cases hw
      exact ⟨by rw [if_pos hn], h⟩
    · cases hw
  | mem b gen =>
    simp only at hw ⊢
    split at hw
    · rename_i cs g' hb
      split at hw
      · rename_i hc
        cases hw
        have hf := h.out hb (fun g e => by cases e)
        rw [h.at hb (fun g e => by cases e)]
        simp only [if_pos hc, fill_low]
        exact ⟨by rw [fill_set hf], h.set hf _ _⟩
      · cases hw
    · cases hw
theorem fill_src {m : Mem} (h : Dead F m) {esz : Nat} {x : EV} {r : List EV × Nat} (hr : srcCells G m esz x = some r) : srcCells G (fill F m) esz x = some r := by
  cases x <;> simp only [srcCells] at hr ⊢ <;> try exact hr
  rename_i a n c e
  cases a with
  | none => exact hr
  | some a =>
    simp only at hr ⊢
    obtain ⟨cs, h1, rfl⟩ := Option.map_eq_some_iff.1 hr
    rw [fill_getN h h1]
    rfl
theorem fill_write_none {m : Mem} (h : Dead F m) {b : Base} {need : Nat} {x : List EV → List EV} (hl : ∀ k g, b = .mem k g → ∃ cs g' rw', m.bl[k]? = some (.cells cs g' rw')) (hw : m.write b need x = none) : (fill F m).write b need x = none := by
  unfold Mem.write at hw ⊢
  cases b with
  | glob g => rfl
  | weak w =>
    simp only at hw ⊢
    split at hw
    · cases hw
    · rename_i hn
      rw [if_neg hn]
  | mem k g =>
    obtain ⟨cs, g', rw', hb⟩ := hl k g rfl
    simp only [hb] at hw
    simp only [h.at hb (fun g e => by cases e)]
    cases rw' with
    | false => rfl
    | true =>
      simp only at hw ⊢
      split at hw
      · cases hw
      · rename_i hn
        rw [if_neg hn]
theorem grow_live {m : Mem} {esz bytes tag len n : Nat} {a : Ad} {new : List EV} {r : EV × Mem} (hr : growE m esz bytes tag a len new n = some r) : ∀ k g, a.base = .mem k g → ∃ cs g' rw', m.bl[k]? = some (.cells cs g' rw') := by
  intro k g hb
  unfold growE at hr
  split at hr
  · rw [hb] at hr
    simp only at hr
    split at hr
    · rename_i cs g' hk
      exact ⟨cs, g', true, hk⟩
    · cases hr
  · cases hr
theorem fill_grow {m : Mem} (h : Dead F m) {esz bytes tag len n : Nat} {a : Ad} {new : List EV} {r : EV × Mem} (hr : growE m esz bytes tag a len new n = some r) : growE (fill F m) esz bytes tag a len new n = some (r.1, fill F r.2) ∧ Dead F r.2 := by
  unfold growE at hr ⊢
  split at hr
  · rename_i hbt
    rw [if_pos hbt]
    split at hr
    · rename_i b gen hbase
      split at hr
      · rename_i cs g' hb
        split at hr
        · rename_i hq
          cases hr
          have hf := h.out hb (fun g e => by cases e)
          simp only [hbase, h.at hb (fun g e => by cases e), if_pos hq, fill_low]
          exact ⟨by rw [fill_set hf], h.set hf _ _⟩
        · cases hr
      · cases hr
    · cases hr
    · cases hr
      rename_i w hbase
      simp only [hbase]
      exact ⟨trivial, h⟩
  · cases hr
theorem fill_append {m : Mem} (h : Dead F m) {esz bytes tag n : Nat} {x : EV} {new : List EV} {r : EV × Mem} (hr : appendE G m esz bytes tag x new n = some r) : appendE G (fill F m) esz bytes tag x new n = some (r.1, fill F r.2) ∧ Dead F r.2 := by
  unfold appendE at hr ⊢
  split at hr
  · split at hr
    · rename_i h0
      cases hr
      exact ⟨by rw [if_pos h0], h⟩
    · rename_i h0
      split at hr
      · rename_i hb
        cases hr
        exact ⟨by rw [if_neg h0, if_pos hb, fill_len, fill_push h], h.push _⟩
      · cases hr
  · rename_i a len cap e
    split at hr
    · cases hr
    · rename_i he
      rw [if_neg he]
      split at hr
      · rename_i hc
        rw [if_pos hc]
        split at hr
        · rename_i hn
          cases hr
          exact ⟨by rw [if_pos hn], h⟩
        · rename_i hn
          rw [if_neg hn]
          unfold Mem.putN at hr ⊢
          split at hr
          · rename_i m' hm
            cases hr
            obtain ⟨k1, k2⟩ := fill_write h hm
            exact ⟨by rw [k1], k2⟩
          · rename_i hm
            rw [fill_write_none (b := (a.plus (len * esz)).base) h (fun k g hk => grow_live hr k g hk) hm]
            exact fill_grow h hr
      · rename_i hc
        rw [if_neg hc]
        exact fill_grow h hr
  · cases hr

theorem fill_put {m m' : Mem} (h : Dead F m) {a : Ad} {vs : List EV} (hw : m.putN a vs = some m') : (fill F m).putN a vs = some (fill F m') ∧ Dead F m' := fill_write h hw
theorem fill_put1 {m m' : Mem} (h : Dead F m) {a : Ad} {v : EV} (hw : m.put1 a v = some m') : (fill F m).put1 a v = some (fill F m') ∧ Dead F m' := fill_write h hw

theorem evVal_fill {o : EOp} {A : Fr} {m : Mem} {r : EV × Mem} (h : Dead F m) (hr : evVal G o A m = some r) : evVal G o A (fill F m) = some (r.1, fill F r.2) ∧ Dead F r.2 := by
  by_cases hc : o.calm = true
  · obtain ⟨h1, h2⟩ := calm_free hc hr
    rw [h1]
    exact ⟨h2 _, h⟩
  have nd : ∀ {cs : List EV} {g : Nat} {rw' : Bool} (g' : Nat), Blk.cells cs g rw' ≠ .dead g' := fun _ e => by cases e
  have ndm : ∀ {es : List Ent} {c : Nat} (g' : Nat), Blk.map es c ≠ .dead g' := fun _ e => by cases e
  have ndi : ∀ {s : List UInt8} {c : Nat} (g' : Nat), Blk.striter s c ≠ .dead g' := fun _ e => by cases e
  cases o <;> first | (exact absurd rfl hc) | skip
  case new z =>
    simp only [evVal] at hr ⊢
    cases hr
    exact ⟨by rw [fill_fresh, fill_push h], h.push _⟩
  case newT g z =>
    simp only [evVal] at hr ⊢
    cases hr
    exact ⟨by rw [fill_len, fill_push h], h.push _⟩
  case box n x =>
    simp only [evVal] at hr ⊢
    split at hr
    · rename_i hq
      cases hr
      rw [if_pos hq]
      exact ⟨by rw [fill_fresh, fill_push h], h.push _⟩
    · cases hr
  case mklit a b z ps =>
    simp only [evVal] at hr ⊢
    obtain ⟨cs, h1, rfl⟩ := Option.map_eq_some_iff.1 hr
    rw [h1]
    exact ⟨by simp only [Option.map_some, fill_fresh, fill_push h], h.push _⟩
  case toBytes x =>
    simp only [evVal] at hr ⊢
    split at hr
    · cases hr
      exact ⟨by rw [fill_fresh, fill_push h], h.push _⟩
    · cases hr
  case mkMap =>
    simp only [evVal] at hr ⊢
    cases hr
    exact ⟨by rw [fill_len, fill_push h], h.push _⟩
  case mkMapN x =>
    simp only [evVal] at hr ⊢
    split at hr
    · cases hr
      exact ⟨by rw [fill_len, fill_push h], h.push _⟩
    · cases hr
  case range x =>
    simp only [evVal] at hr ⊢
    split at hr
    · cases hr
      exact ⟨by rw [fill_len, fill_push h], h.push _⟩
    · cases hr
  case mkSlice a b z l c =>
    simp only [evVal] at hr ⊢
    split at hr
    · split at hr
      · rename_i hq
        cases hr
        rw [if_pos hq]
        exact ⟨by rw [fill_fresh, fill_push h], h.push _⟩
      · cases hr
    · cases hr
  case load n a =>
    simp only [evVal] at hr ⊢
    split at hr
    · split at hr
      · obtain ⟨v, h1, rfl⟩ := Option.map_eq_some_iff.1 hr
        exact ⟨by rw [fill_getv h h1]; rfl, h⟩
      · obtain ⟨v, h1, rfl⟩ := Option.map_eq_some_iff.1 hr
        exact ⟨by rw [fill_getN h h1]; rfl, h⟩
    · cases hr
  case toStr x =>
    simp only [evVal] at hr ⊢
    split at hr
    · cases hr
      exact ⟨rfl, h⟩
    · obtain ⟨v, h1, rfl⟩ := Option.map_eq_some_iff.1 hr
      obtain ⟨cs, h2, h3⟩ := Option.bind_eq_some_iff.1 h1
      exact ⟨by rw [fill_getN h h2]; simp only [Option.bind_some, h3, Option.map_some], h⟩
    · cases hr
  case store n a x =>
    simp only [evVal] at hr ⊢
    split at hr
    · split at hr
      · split at hr
        · rename_i hq
          obtain ⟨m', h1, rfl⟩ := Option.map_eq_some_iff.1 hr
          obtain ⟨k1, k2⟩ := fill_put h h1
          exact ⟨by rw [if_pos hq, k1]; rfl, k2⟩
        · cases hr
      · cases hr
      · cases hr
      · split at hr
        · rename_i hq
          obtain ⟨m', h1, rfl⟩ := Option.map_eq_some_iff.1 hr
          obtain ⟨k1, k2⟩ := fill_put1 h h1
          refine ⟨?_, k2⟩
          rw [if_pos hq, k1]
          rfl
        · cases hr
    · cases hr
  case slArr n e x lo hi =>
    simp only [evVal] at hr ⊢
    split at hr
    · split at hr
      · split at hr
        · split at hr
          · rename_i cs hrow
            rw [fill_row h hrow]
            simp only
            split at hr
            · rename_i hq
              cases hr
              exact ⟨by rw [if_pos hq], h⟩
            · cases hr
          · cases hr
        · cases hr
      · cases hr
    · cases hr
  case lenMap x =>
    simp only [evVal] at hr ⊢
    split at hr
    · cases hr
      exact ⟨rfl, h⟩
    · split at hr
      · rename_i hb
        cases hr
        rw [h.at hb ndm]
        exact ⟨rfl, h⟩
      · cases hr
    · cases hr
  case append a b c x y =>
    simp only [evVal] at hr ⊢
    split at hr
    · rename_i new n hs
      rw [fill_src h hs]
      exact fill_append h hr
    · cases hr
  case clear z x =>
    simp only [evVal] at hr ⊢
    split at hr
    · cases hr; exact ⟨rfl, h⟩
    · split at hr
      · rename_i hq
        cases hr
        exact ⟨by rw [if_pos hq], h⟩
      · rename_i hq
        obtain ⟨m', hm', rfl⟩ := Option.map_eq_some_iff.1 hr
        obtain ⟨k1, k2⟩ := fill_put h hm'
        rw [if_neg hq, k1]
        exact ⟨rfl, k2⟩
    · cases hr
  case copy e x y =>
    simp only [evVal] at hr ⊢
    split at hr
    · split at hr
      · rename_i new n hs
        rw [fill_src h hs]
        simp only
        split at hr
        · cases hr
          exact ⟨rfl, h⟩
        · split at hr
          · rename_i hq
            cases hr
            exact ⟨by rw [if_pos hq], h⟩
          · rename_i hq
            obtain ⟨m', h1, rfl⟩ := Option.map_eq_some_iff.1 hr
            obtain ⟨k1, k2⟩ := fill_put h h1
            exact ⟨by rw [if_neg hq, k1]; rfl, k2⟩
      · cases hr
    · cases hr
  case unsafeTo x =>
    simp only [evVal] at hr ⊢
    split at hr
    · cases hr
      exact ⟨rfl, h⟩
    · split at hr
      · rename_i hb
        rw [h.at hb nd]
        simp only
        split at hr
        · rename_i hq
          cases hr
          exact ⟨by rw [if_pos hq], h⟩
        · cases hr
      · cases hr
    · cases hr
  case unsafeFrom g n x =>
    simp only [evVal] at hr ⊢
    split at hr
    · cases hr
      exact ⟨rfl, h⟩
    · split at hr
      · rename_i hb
        rw [h.at hb nd]
        simp only
        split at hr
        · rename_i hq
          cases hr
          exact ⟨by rw [if_pos hq], h⟩
        · cases hr
      · cases hr
    · cases hr
  case ptrEq b x y =>
    simp only [evVal] at hr ⊢
    split at hr
    · cases hr; exact ⟨rfl, h⟩
    · cases hr; exact ⟨rfl, h⟩
    · split at hr
      · rename_i hb
        rw [h.at hb nd]
        simp only
        split at hr
        · rename_i hq
          cases hr
          exact ⟨by rw [if_pos hq], h⟩
        · cases hr
      · cases hr
    · cases hr
  case unsafeStr g x n =>
    simp only [evVal] at hr ⊢
    split at hr
    · split at hr
      · rename_i hq
        cases hr
        exact ⟨by rw [if_pos hq], h⟩
      · cases hr
    · split at hr
      · rename_i hq
        cases hr
        exact ⟨by rw [if_pos hq], h⟩
      · rename_i hq
        rw [if_neg hq]
        split at hr
        · cases hr
        · rename_i hq2
          rw [if_neg hq2]
          split at hr
          · rename_i bb gg hbase
            split at hr
            · rename_i hb
              rw [h.at hb nd]
              simp only
              split at hr
              · rename_i hq3
                obtain ⟨v, h1, rfl⟩ := Option.map_eq_some_iff.1 hr
                obtain ⟨cs, h2, h3⟩ := Option.bind_eq_some_iff.1 h1
                have hf := h.out hb nd
                refine ⟨?_, h.set hf _ _⟩
                rw [if_pos hq3, fill_getN h h2]
                simp only [Option.bind_some, h3, Option.map_some, fill_low]
                rw [fill_set hf]
              · cases hr
            · cases hr
          · cases hr
    · cases hr
  case lookup q z x k ok =>
    simp only [evVal] at hr ⊢
    split at hr
    · obtain ⟨f, h1, rfl⟩ := Option.map_eq_some_iff.1 hr
      exact ⟨by rw [h1]; rfl, h⟩
    · split at hr
      · rename_i hb
        obtain ⟨f, h1, rfl⟩ := Option.map_eq_some_iff.1 hr
        exact ⟨by rw [h.at hb ndm]; simp only [h1, Option.map_some], h⟩
      · cases hr
    · cases hr
  case mapSet q x k v =>
    simp only [evVal] at hr ⊢
    split at hr
    · split at hr
      · rename_i hb
        split at hr
        · rename_i hq
          obtain ⟨f, h1, rfl⟩ := Option.map_eq_some_iff.1 hr
          have hf := h.out hb ndm
          refine ⟨?_, h.set hf _ _⟩
          rw [h.at hb ndm]
          simp only [if_pos hq, h1, Option.map_some, fill_low]
          rw [fill_set hf]
        · cases hr
      · cases hr
    · cases hr
  case delete q x k =>
    simp only [evVal] at hr ⊢
    split at hr
    · obtain ⟨f, h1, rfl⟩ := Option.map_eq_some_iff.1 hr
      exact ⟨by rw [h1]; rfl, h⟩
    · split at hr
      · rename_i hb
        obtain ⟨f, h1, rfl⟩ := Option.map_eq_some_iff.1 hr
        have hf := h.out hb ndm
        refine ⟨?_, h.set hf _ _⟩
        rw [h.at hb ndm]
        simp only [h1, Option.map_some, fill_low]
        rw [fill_set hf]
      · cases hr
    · cases hr
  case next x =>
    simp only [evVal] at hr ⊢
    split at hr
    · split at hr
      · rename_i hb
        rw [h.at hb ndi]
        simp only
        split at hr
        · rename_i hq
          cases hr
          have hf := h.out hb ndi
          exact ⟨by rw [if_pos hq, fill_low, fill_set hf], h.set hf _ _⟩
        · rename_i hq
          cases hr
          exact ⟨by rw [if_neg hq], h⟩
      · cases hr
    · cases hr
  case mark x =>
    simp only [evVal] at hr ⊢
    split at hr
    · split at hr
      · rename_i hb
        rw [h.at hb nd]
        simp only
        split at hr
        · rename_i hq
          cases hr
          exact ⟨by rw [if_pos hq], h⟩
        · cases hr
      · cases hr
    · cases hr
  all_goals (simp only [evVal] at hr; cases hr)

/-- Calls do not mind what lies in dead blocks. -/
def FillC (c : CallE) : Prop := ∀ f args m p r, c f args m p = some r → ∀ F : Nat → Option Blk, Dead F m → c f args (fill F m) p = some { r with m := fill F r.m } ∧ Dead F r.m

theorem evOp_fill {c : CallE} (hc : FillC c) {o : EOp} {s : St} {r : Res × St} (h : Dead F s.m) (hr : evOp c G o s = some r) : evOp c G o { s with m := fill F s.m } = some (r.1, { r.2 with m := fill F r.2.m }) ∧ Dead F r.2.m := by
  by_cases hq : o.quiet = true
  · rw [evOp_quiet hq] at hr ⊢
    obtain ⟨x, hx, rfl⟩ := Option.map_eq_some_iff.1 hr
    obtain ⟨h1, h2⟩ := evVal_fill h hx
    exact ⟨by simp only [h1, Option.map_some], h2⟩
  · cases o <;> first | exact absurd rfl hq | skip
    · simp only [evOp] at hr ⊢
      split at hr
      · rename_i f cap hf
        split at hr
        · rename_i r' hr'
          cases hr
          obtain ⟨h1, h2⟩ := hc _ _ _ _ _ hr' F h
          simp only [h1]
          exact ⟨trivial, h2⟩
        · cases hr
      · cases hr
    · simp only [evOp] at hr ⊢
      split at hr
      · cases hr; exact ⟨rfl, h⟩
      · cases hr
    · simp only [evOp] at hr ⊢
      split at hr
      · cases hr; exact ⟨by simp only [*], h⟩
      · cases hr; exact ⟨by simp only [*], h⟩
      · cases hr
    · simp only [evOp] at hr ⊢
      split at hr
      · cases hr; exact ⟨by simp only [*], h⟩
      · cases hr

/-- A state with some blocks laid over. -/
def fillS (F : Nat → Option Blk) (s : St) : St := { s with m := fill F s.m }
theorem fillS_put (s : St) (d : Option Nat) (v : EV) : (fillS F s).put d v = fillS F (s.put d v) := by cases d <;> rfl
theorem put_dead {s : St} {d : Option Nat} {v : EV} (h : Dead F s.m) : Dead F (s.put d v).m := by cases d <;> exact h
theorem evOps_fill {c : CallE} (hc : FillC c) : ∀ {os : List EOper} {s : St} {r : Ex × St}, Dead F s.m → evOps c G os s = some r → evOps c G os (fillS F s) = some (r.1, fillS F r.2) ∧ Dead F r.2.m
  | [], s, r, h, hr => by
    simp only [evOps] at hr ⊢
    cases hr
    exact ⟨rfl, h⟩
  | o :: os, s, r, h, hr => by
    simp only [evOps] at hr ⊢
    have ew : wantedE (fillS F s).A o.guard = wantedE s.A o.guard := rfl
    rw [ew]
    split at hr
    · rename_i hw
      rw [if_pos hw]
      split at hr
      · rename_i v s' hv
        obtain ⟨h1, h2⟩ := evOp_fill hc h hv
        have h1 : evOp c G o.op (fillS F s) = some (.val v, fillS F s') := h1
        rw [h1]
        simp only [fillS_put]
        exact evOps_fill hc (put_dead h2) hr
      · rename_i v s' hv
        cases hr
        obtain ⟨h1, h2⟩ := evOp_fill hc h hv
        have h1 : evOp c G o.op (fillS F s) = some (.pan v, fillS F s') := h1
        rw [h1]
        exact ⟨rfl, h2⟩
      · cases hr
    · rename_i hw
      rw [if_neg hw, fillS_put]
      exact evOps_fill hc (put_dead h) hr
theorem stepD_fill {c : CallE} (hc : FillC c) {n0 : Nat} {o : EOper} {fl : Bool} {s s' : St} (h : Dead F s.m) (hr : stepD c G n0 o fl s = some s') : stepD c G n0 o fl (fillS F s) = some (fillS F s') ∧ Dead F s'.m := by
  unfold stepD at hr ⊢
  have ew : wantedE (fillS F s).A o.guard = wantedE s.A o.guard := rfl
  rw [ew]
  split at hr
  · rename_i hw
    rw [if_pos hw]
    split at hr
    · rename_i hf
      rw [if_pos hf]
      split at hr
      · rename_i hfo
        rw [if_pos (show floatOk n0 (fillS F s).A o.op = true from hfo)]
        obtain ⟨r, hv, rfl⟩ := Option.map_eq_some_iff.1 hr
        obtain ⟨h1, h2⟩ := evVal_fill h hv
        have h1 : evVal G o.op (fillS F s).A (fillS F s).m = some (r.1, fill F r.2) := h1
        rw [h1]
        exact ⟨by simp only [Option.map_some, fillS_put], put_dead h⟩
      · cases hr
    · rename_i hf
      rw [if_neg hf]
      split at hr
      · rename_i v s1 hv
        cases hr
        obtain ⟨h1, h2⟩ := evOp_fill hc h hv
        have h1 : evOp c G o.op (fillS F s) = some (.val v, fillS F s1) := h1
        rw [h1]
        exact ⟨by simp only [fillS_put], put_dead h2⟩
      · cases hr
  · rename_i hw
    cases hr
    rw [if_neg hw, fillS_put]
    exact ⟨rfl, put_dead h⟩
theorem evD_fill {c : CallE} (hc : FillC c) {n0 : Nat} : ∀ {os : List EOper} {fl : List Bool} {s s' : St}, Dead F s.m → evD c G n0 os fl s = some s' → evD c G n0 os fl (fillS F s) = some (fillS F s') ∧ Dead F s'.m
  | [], fl, s, s', h, hr => by
    simp only [evD] at hr ⊢
    cases hr
    exact ⟨rfl, h⟩
  | o :: os, [], s, s', h, hr => by simp [evD] at hr
  | o :: os, f :: fl, s, s', h, hr => by
    simp only [evD] at hr ⊢
    split at hr
    · rename_i s1 hs
      obtain ⟨h1, h2⟩ := stepD_fill hc h hs
      rw [h1]
      exact evD_fill hc h2 hr
    · cases hr
theorem lowD_fill (m m' : Mem) : lowD (fill F m) (fill F m') = lowD m m' := by simp only [lowD, fill_len, fill_low]
theorem regionN_fill {c : CallE} (hc : FillC c) {N : Nat} {ops : List EOper} {fl : List Bool} {cut : Nat} {s : St} {r : Ex × St} (h : Dead F s.m) (hr : regionN c G N ops fl cut s = some r) : regionN c G N ops fl cut (fillS F s) = some (r.1, fillS F r.2) ∧ Dead F r.2.m := by
  unfold regionN at hr ⊢
  split at hr
  · cases hr
  rename_i hp
  rw [if_neg (show ¬ (fillS F s).p.isSome = true from hp)]
  split at hr
  case h_2 => cases hr
  rename_i s1 h1
  obtain ⟨k1, k2⟩ := evD_fill (F := F) hc (s := { s with m := ⟨s.m.bl, s.m.bl.length⟩ }) (h.bl rfl) h1
  have e0 : ({ fillS F s with m := ⟨(fillS F s).m.bl, (fillS F s).m.bl.length⟩ } : St) = fillS F { s with m := ⟨s.m.bl, s.m.bl.length⟩ } := by simp [fillS, fill]
  rw [e0, k1]
  simp only
  split at hr
  case isFalse => cases hr
  rename_i hl
  rw [if_pos (show N ≤ (fillS F s1).m.low from hl)]
  split at hr
  case h_2 => cases hr
  rename_i s2 h2
  cases hr
  obtain ⟨k3, k4⟩ := evD_fill (F := F) hc k2 h2
  rw [k3]
  refine ⟨?_, k4.bl rfl⟩
  have : lowD (fillS F s).m (fillS F s2).m = lowD s.m s2.m := lowD_fill _ _
  simp only [this]
  rfl
theorem regionD_fill {c : CallE} (hc : FillC c) {ops : List EOper} {fl : List Bool} {cut : Nat} {s : St} {r : Ex × St} (h : Dead F s.m) (hr : regionD c G ops fl cut s = some r) : regionD c G ops fl cut (fillS F s) = some (r.1, fillS F r.2) ∧ Dead F r.2.m := by
  obtain ⟨N, hN⟩ := regionD_spec hr
  unfold regionD at hr ⊢
  split at hr
  case h_2 => cases hr
  rename_i s1 h1
  obtain ⟨k1, k2⟩ := evD_fill (F := F) hc (s := { s with m := ⟨s.m.bl, s.m.bl.length⟩ }) (h.bl rfl) h1
  have e0 : ({ fillS F s with m := ⟨(fillS F s).m.bl, (fillS F s).m.bl.length⟩ } : St) = fillS F { s with m := ⟨s.m.bl, s.m.bl.length⟩ } := by simp [fillS, fill]
  have el : (fillS F s).m.bl.length = s.m.bl.length := fill_len _
  have ew : (fillS F s1).m.low = s1.m.low := rfl
  rw [e0, el, k1]
  simp only [ew]
  split at hr
  · rename_i r' hr'
    cases hr
    obtain ⟨k3, k4⟩ := regionN_fill (F := F) hc h hr'
    rw [k3]
    exact ⟨rfl, k4⟩
  · obtain ⟨k3, k4⟩ := regionN_fill (F := F) hc h hr
    cases hq : regionN c G s.m.bl.length ops fl cut (fillS F s) with
    | none => exact ⟨k3, k4⟩
    | some r' =>
      have := regionN_same hq k3
      subst this
      exact ⟨rfl, k4⟩
theorem commit_fill : ∀ {bs : List Blk} {r : Nat} {m m' : Mem}, Dead F m → (∀ i, i < bs.length → F (r + i) = none) → commitE bs r m = some m' → commitE bs r (fill F m) = some (fill F m') ∧ Dead F m'
  | [], r, m, m', h, _, hr => by
    simp only [commitE] at hr ⊢
    cases hr
    exact ⟨rfl, h⟩
  | b :: bs, r, m, m', h, hf, hr => by
    simp only [commitE] at hr ⊢
    split at hr
    · rename_i hd
      have hf0 : F r = none := by simpa using hf 0 (by simp)
      rw [fill_get, hd, hf0]
      simp only [Option.map_some, Option.getD_none, fill_low]
      rw [fill_set hf0]
      exact commit_fill (h.set hf0 _ _) (fun i hi => by rw [show r + 1 + i = r + (i + 1) by omega]; exact hf (i + 1) (by simp; omega)) hr
    · cases hr
theorem regionL_fill {c : CallE} (hc : FillC c) {js : List Nat} {ops : List EOper} {fl : List Bool} {cut : Nat} {s : St} {r : Ex × St} (h : Dead F s.m) (hr : regionL c G js ops fl cut s = some r) : regionL c G js ops fl cut (fillS F s) = some (r.1, fillS F r.2) ∧ Dead F r.2.m := by
  obtain ⟨bs, s1, m1, s', hp, hbs, h1, hl, hm, h2, rfl⟩ := regionL_spec hr
  have el : (fillS F s).m.bl.length = s.m.bl.length := fill_len _
  have hd0 : Dead F (⟨s.m.bl ++ List.replicate bs.length (.dead 0), s.m.bl.length + bs.length⟩ : Mem) := fun b hb => by
    obtain ⟨g, hg⟩ := h b hb
    exact ⟨g, by simp only; rw [List.getElem?_append_left (List.getElem?_eq_some_iff.1 hg).1, hg]⟩
  have hnone : ∀ b, s.m.bl.length ≤ b → F b = none := fun b hb => h.lt hb
  obtain ⟨k1, k2⟩ := evD_fill (F := F) hc (s := { s with m := ⟨s.m.bl ++ List.replicate bs.length (.dead 0), s.m.bl.length + bs.length⟩ }) hd0 h1
  have e0 : ({ fillS F s with m := ⟨(fillS F s).m.bl ++ List.replicate bs.length (.dead 0), (fillS F s).m.bl.length + bs.length⟩ } : St) = fillS F { s with m := ⟨s.m.bl ++ List.replicate bs.length (.dead 0), s.m.bl.length + bs.length⟩ } := by
    have : (List.mapIdx (fun b x => (F b).getD x) (s.m.bl ++ List.replicate bs.length (.dead 0))) = List.mapIdx (fun b x => (F b).getD x) s.m.bl ++ List.replicate bs.length (.dead 0) := by
      rw [List.mapIdx_append]
      congr 1
      apply List.ext_getElem?
      intro i
      rw [List.getElem?_mapIdx, hnone (i + s.m.bl.length) (by omega)]
      simp
    simp [fillS, fill, this]
  obtain ⟨k3, k4⟩ := commit_fill (F := F) k2 (fun i _ => hnone _ (by omega)) hm
  obtain ⟨k5, k6⟩ := evD_fill (F := F) hc (s := { s1 with m := m1 }) k4 h2
  have hq := regionL_of (c := c) (G := G) (js := js) (ops := ops) (fl := fl) (cut := cut) (s := fillS F s) (s1 := fillS F s1) (s' := fillS F s') (bs := bs) (m1 := fill F m1) hp hbs (by rw [e0, el]; exact k1) (by rw [el]; exact hl) (by rw [el]; exact k3) (by rw [el]; exact k5)
  rw [hq]
  refine ⟨?_, k6.bl rfl⟩
  have : lowD (fillS F s).m (fillS F s').m = lowD s.m s'.m := lowD_fill _ _
  simp only [this]
  rfl
theorem iterE_fill {f : St → Option (Ex × St)} (hf : ∀ s r, Dead F s.m → f s = some r → f (fillS F s) = some (r.1, fillS F r.2) ∧ Dead F r.2.m) : ∀ (n : Nat) (s : St) (r : Ex × St), Dead F s.m → iterE f n s = some r → iterE f n (fillS F s) = some (r.1, fillS F r.2) ∧ Dead F r.2.m
  | 0, _, _, _, hr => by simp [iterE] at hr
  | n + 1, s, r, h, hr => by
    simp only [iterE] at hr ⊢
    split at hr
    · rename_i s' hs
      obtain ⟨h1, h2⟩ := hf _ _ h hs
      rw [h1]
      exact iterE_fill hf n _ _ h2 hr
    · rename_i hne
      obtain ⟨h1, h2⟩ := hf _ _ h hr
      rw [h1]
      split
      · rename_i s' hs
        simp only [Option.some.injEq, Prod.mk.injEq] at hs
        obtain ⟨r1, r2⟩ := r
        simp only at hs
        exact absurd hr (by rw [hs.1]; exact hne r2)
      · exact ⟨rfl, h2⟩
theorem evCode_fill {c : CallE} (hc : FillC c) {n : Nat} : ∀ {x : ECode} {s : St} {r : Ex × St}, Dead F s.m → evCode c G n x s = some r → evCode c G n x (fillS F s) = some (r.1, fillS F r.2) ∧ Dead F r.2.m := by
  intro x
  induction x with
  | skip => intro s r h hr; simp only [evCode] at hr ⊢; cases hr; exact ⟨rfl, h⟩
  | reg ops => intro s r h hr; exact evOps_fill hc h hr
  | regD ops fl cut => intro s r h hr; exact regionD_fill hc h hr
  | regL js ops fl cut => intro s r h hr; exact regionL_fill hc h hr
  | seq a b iha ihb =>
    intro s r h hr
    simp only [evCode] at hr ⊢
    split at hr
    · rename_i s' hs
      obtain ⟨h1, h2⟩ := iha h hs
      rw [h1]
      exact ihb h2 hr
    · rename_i hne
      obtain ⟨h1, h2⟩ := iha h hr
      rw [h1]
      split
      · rename_i s' hs
        simp only [Option.some.injEq, Prod.mk.injEq] at hs
        obtain ⟨r1, r2⟩ := r
        simp only at hs
        exact absurd hr (by rw [hs.1]; exact hne r2)
      · exact ⟨rfl, h2⟩
  | cond q a b iha ihb =>
    intro s r h hr
    simp only [evCode] at hr ⊢
    have ew : opd (fillS F s).A q = opd s.A q := rfl
    rw [ew]
    split at hr
    · exact iha h hr
    · exact ihb h hr
    · cases hr
  | block id a iha =>
    intro s r h hr
    simp only [evCode] at hr ⊢
    split at hr
    · rename_i i s' hs
      obtain ⟨h1, h2⟩ := iha h hs
      rw [h1]
      simp only
      split at hr
      · rename_i hi
        cases hr
        rw [if_pos hi]
        exact ⟨rfl, h2⟩
      · rename_i hi
        cases hr
        rw [if_neg hi]
        exact ⟨rfl, h2⟩
    · rename_i hne
      obtain ⟨h1, h2⟩ := iha h hr
      rw [h1]
      split
      · rename_i i s' hs
        simp only [Option.some.injEq, Prod.mk.injEq] at hs
        obtain ⟨r1, r2⟩ := r
        simp only at hs
        exact absurd hr (by rw [hs.1]; exact hne i r2)
      · exact ⟨rfl, h2⟩
  | loop a iha =>
    intro s r h hr
    simp only [evCode] at hr ⊢
    exact iterE_fill (fun s r h hs => iha h hs) _ _ _ h hr
  | exit id => intro s r h hr; simp only [evCode] at hr ⊢; cases hr; exact ⟨rfl, h⟩
  | ret => intro s r h hr; simp only [evCode] at hr ⊢; cases hr; exact ⟨rfl, h⟩
theorem resE_fill {A : Fr} {m : Mem} {x : ERes} {v : EV} (h : Dead F m) (hr : resE G A m x = some v) : resE G A (fill F m) x = some v := by
  cases x with
  | tmp t => exact hr
  | cell a n =>
    simp only [resE] at hr ⊢
    split at hr
    · split at hr
      · exact fill_getv h hr
      · obtain ⟨cs, h1, rfl⟩ := Option.map_eq_some_iff.1 hr
        rw [fill_getN h h1]
        rfl
    · cases hr
theorem resultsE_fill {A : Fr} {m : Mem} (h : Dead F m) : ∀ {rs : List ERes} {vs : List EV}, resultsE G A m rs = some vs → resultsE G A (fill F m) rs = some vs
  | [], vs, hr => hr
  | x :: rs, vs, hr => by
    simp only [resultsE] at hr ⊢
    split at hr
    · rename_i v vs' h1 h2
      rw [resE_fill h h1, resultsE_fill h h2]
      exact hr
    · cases hr
theorem leaveE_fill {m0 m : Mem} {v : EV} (h0 : Dead F m0) (h : Dead F m) : leaveE (fill F m0) v (fill F m) = fill F (leaveE m0 v m) ∧ Dead F (leaveE m0 v m) := by
  simp only [leaveE, fill_len, fill_low]
  split
  · exact ⟨rfl, h0⟩
  · exact ⟨rfl, h.bl rfl⟩
theorem runD_fill {c : CallE} (hc : FillC c) : ∀ {ds : List (FuncId × List EV)} {m : Mem} {pan : Option EV} {r : Option EV × Mem}, Dead F m → runD c ds m pan = some r → runD c ds (fill F m) pan = some (r.1, fill F r.2) ∧ Dead F r.2
  | [], m, pan, r, h, hr => by
    simp only [runD] at hr ⊢
    cases hr
    exact ⟨rfl, h⟩
  | (f, args) :: ds, m, pan, r, h, hr => by
    simp only [runD] at hr ⊢
    split at hr
    · rename_i v m' p hv
      obtain ⟨h1, h2⟩ := hc _ _ _ _ _ hv F h
      rw [h1]
      exact runD_fill hc h2 hr
    · cases hr
theorem finE_fill {c : CallE} (hc : FillC c) {res : List ERes} {m : Mem} {pan : Option EV} {s : St} {r : CR} (h0 : Dead F m) (h : Dead F s.m) (hr : finE c G res m pan s = some r) : finE c G res (fill F m) pan (fillS F s) = some { r with m := fill F r.m } ∧ Dead F r.m := by
  unfold finE at hr ⊢
  split at hr
  · cases hr
  rename_i hp
  rw [if_neg (show ¬ ((fillS F s).p.isSome = true ∧ (fillS F s).d.isEmpty = false) from hp)]
  have ed : (fillS F s).d = s.d := rfl
  have em : (fillS F s).m = fill F s.m := rfl
  have eA : (fillS F s).A = s.A := rfl
  rw [ed, em, eA]
  split at hr
  · rename_i m' hd
    obtain ⟨h1, h2⟩ := runD_fill hc h hd
    rw [h1]
    obtain ⟨vs, hvs, rfl⟩ := Option.map_eq_some_iff.1 hr
    simp only [resultsE_fill h2 hvs, Option.map_some]
    obtain ⟨k1, k2⟩ := leaveE_fill (v := oneE vs) h0 h2
    rw [k1]
    exact ⟨rfl, k2⟩
  · rename_i v m' hd
    obtain ⟨h1, h2⟩ := runD_fill hc h hd
    rw [h1]
    cases hr
    obtain ⟨k1, k2⟩ := leaveE_fill (v := v) h0 h2
    simp only [k1]
    exact ⟨rfl, k2⟩
  · cases hr
theorem srcS_fill {m : Mem} {x : EV} {s : List UInt8} (h : Dead F m) (hr : srcS G m x = some s) : srcS G (fill F m) x = some s := by
  cases x <;> simp only [srcS] at hr ⊢ <;> try exact hr
  rename_i a n c e
  cases a with
  | none => exact hr
  | some a =>
    simp only at hr ⊢
    obtain ⟨cs, h1, h2⟩ := Option.bind_eq_some_iff.1 hr
    rw [fill_getN h h1]
    exact h2
theorem primE_fill {n : Prim} {args : List EV} {m : Mem} {r : EV × Mem} (h : Dead F m) (hr : primE n G args m = some r) : primE n G args (fill F m) = some (r.1, fill F r.2) ∧ Dead F r.2 := by
  unfold primE at hr ⊢
  split at hr
  · unfold ibsE at hr ⊢
    split at hr
    · split at hr
      · rename_i hq
        cases hr
        exact ⟨by rw [if_pos hq], h⟩
      · cases hr
    · cases hr
  · unfold noeE at hr ⊢
    split at hr
    · cases hr; exact ⟨rfl, h⟩
    · cases hr
  · unfold ffbE at hr ⊢
    split at hr
    · cases hr; exact ⟨rfl, h⟩
    · cases hr
  · unfold cntE at hr ⊢
    split at hr
    · cases hr; exact ⟨rfl, h⟩
    · cases hr
  · unfold ibyE at hr ⊢
    split at hr
    · obtain ⟨s, h1, rfl⟩ := Option.map_eq_some_iff.1 hr
      exact ⟨by rw [srcS_fill h h1]; rfl, h⟩
    · cases hr
  · unfold idxE at hr ⊢
    split at hr
    · split at hr
      · rename_i s t k h1 h2 h3
        split at hr
        · rename_i hq
          cases hr
          exact ⟨by simp only [srcS_fill h h1, srcS_fill h h2, h3, if_pos hq], h⟩
        · cases hr
      · cases hr
    · cases hr
  · cases hr
  · obtain ⟨v, h1, rfl⟩ := Option.map_eq_some_iff.1 hr
    exact ⟨by rw [h1]; rfl, h⟩
  · cases hr
  · unfold mnzE at hr ⊢
    split at hr
    · split at hr
      · rename_i hq
        cases hr
        exact ⟨by rw [if_pos hq, fill_len, fill_push h], h.push _⟩
      · cases hr
    · cases hr
theorem weakE_fill {args : List EV} {m : Mem} {q : List EV × Mem} (h : Dead F m) (hr : weakE args m = some q) : weakE args (fill F m) = some (q.1, fill F q.2) ∧ Dead F q.2 := by
  unfold weakE at hr ⊢
  split at hr
  · cases hr; exact ⟨rfl, h⟩
  · split at hr
    · rename_i hb
      have nd : ∀ {cs : List EV} {g : Nat} {rw' : Bool} (g' : Nat), Blk.cells cs g rw' ≠ .dead g' := fun _ e => by cases e
      have hf := h.out hb nd
      rw [h.at hb nd]
      simp only
      split at hr
      · rename_i hq
        cases hr
        refine ⟨?_, h.set hf _ _⟩
        rw [if_pos hq, fill_low, fill_set hf]
      · cases hr
    · cases hr
  · cases hr
/-- A run does not mind what lies in dead blocks. -/
theorem evFun_fill {T : FuncId → Option EFunc} : ∀ k, FillC (evFun T G k)
  | 0, f, args, m, p, r, hr, F, h => by simp [evFun] at hr
  | k + 1, f, args, m, p, r, hr, F, h => by
    have ih := evFun_fill (T := T) k
    simp only [evFun] at hr ⊢
    split at hr
    · cases hr
    rename_i ef hef
    split at hr
    · split at hr
      · cases hr
      rename_i hp
      rw [if_neg hp]
      split at hr
      · cases hr
      rename_i q hq
      obtain ⟨w1, w2⟩ := weakE_fill h hq
      rw [w1]
      simp only
      have e0 : (⟨argsE q.1, ⟨(fill F q.2).bl, (fill F q.2).bl.length⟩, [], none⟩ : St) = fillS F ⟨argsE q.1, ⟨q.2.bl, q.2.bl.length⟩, [], none⟩ := by simp [fillS, fill]
      rw [e0]
      split at hr
      · rename_i s hs
        obtain ⟨k1, k2⟩ := evCode_fill (F := F) ih (w2.bl rfl) hs
        rw [k1]
        exact finE_fill ih w2 k2 hr
      · rename_i s hs
        obtain ⟨k1, k2⟩ := evCode_fill (F := F) ih (w2.bl rfl) hs
        rw [k1]
        exact finE_fill ih w2 k2 hr
      · rename_i v s hs
        obtain ⟨k1, k2⟩ := evCode_fill (F := F) ih (w2.bl rfl) hs
        rw [k1]
        exact finE_fill ih w2 k2 hr
      · cases hr
    · rename_i n hn
      split at hr
      · cases hr
      rename_i hp
      rw [if_neg hp]
      obtain ⟨x, hx, rfl⟩ := Option.map_eq_some_iff.1 hr
      obtain ⟨k1, k2⟩ := primE_fill h hx
      rw [k1]
      exact ⟨rfl, k2⟩
    · have e0 : (⟨argsE args, ⟨(fill F m).bl, (fill F m).bl.length⟩, [], p⟩ : St) = fillS F ⟨argsE args, ⟨m.bl, m.bl.length⟩, [], p⟩ := by simp [fillS, fill]
      rw [e0]
      split at hr
      · rename_i s hs
        obtain ⟨k1, k2⟩ := evCode_fill (F := F) ih (h.bl rfl) hs
        rw [k1]
        exact finE_fill ih h k2 hr
      · rename_i s hs
        obtain ⟨k1, k2⟩ := evCode_fill (F := F) ih (h.bl rfl) hs
        rw [k1]
        exact finE_fill ih h k2 hr
      · rename_i v s hs
        obtain ⟨k1, k2⟩ := evCode_fill (F := F) ih (h.bl rfl) hs
        rw [k1]
        exact finE_fill ih h k2 hr
      · cases hr
end Go.Ev
