/- The engine, part 21: more rules for walking code: guarded operations without a split of cases, boxes under a name, guarded calls. There are no conditions. -/
import Derived.Test.YthmmoahdobpfoaaGreatDoorXEv4
set_option linter.unusedSimpArgs false
set_option linter.unusedSectionVars false
set_option linter.unusedVariables false
namespace Go.Ev
variable {T : FuncId → Option EFunc} {G : Globs}

/-- The frame with a value in a place, if there is a place. -/
def setO (A : Fr) : Option Nat → EV → Fr
  | some t, v => upd A t v
  | none, _ => A

/-- Operations that a walk takes one by one: no calls and no new blocks. -/
def EOp.plain : EOp → Bool
  | .load _ _ | .store _ _ _ => true
  | .build _ _ => false
  | o => o.calm
theorem EOp.plain_quiet {o : EOp} (h : o.plain = true) : o.quiet = true := by
  cases o <;> first | rfl | cases h
theorem wpOps_plain {o : EOp} {dst : Option Nat} {os : List EOper} {Q : Ex → St → Prop} {A : Fr} {m : Mem} {d : List (FuncId × List EV)} {p : Option (Option EV)} (hq : o.plain = true)
    (h : stepE G o dst A m fun A m => wpOps T G os Q ⟨A, m, d, p⟩) : wpOps T G (⟨dst, o, none⟩ :: os) Q ⟨A, m, d, p⟩ := wpOps_step (EOp.plain_quiet hq) h
theorem wpD_plain {n0 : Nat} {o : EOp} {dst : Option Nat} {os : List EOper} {fl : List Bool} {Q : St → Prop} {A : Fr} {m : Mem} {d : List (FuncId × List EV)} {p : Option (Option EV)} (hq : o.plain = true)
    (h : stepE G o dst A m fun A m' => wpD T G n0 os fl Q ⟨A, m', d, p⟩) : wpD T G n0 (⟨dst, o, none⟩ :: os) (false :: fl) Q ⟨A, m, d, p⟩ := wpD_step (EOp.plain_quiet hq) h

theorem wpD_pfloat {n0 : Nat} {o : EOp} {dst : Option Nat} {os : List EOper} {fl : List Bool} {Q : St → Prop} {A : Fr} {m : Mem} {d : List (FuncId × List EV)} {p : Option (Option EV)} (hq : o.plain = true) (hf : floatOk n0 A o = true)
    (h : stepE G o dst A m fun A m' => wpD T G n0 os fl Q ⟨A, m, d, p⟩) : wpD T G n0 (⟨dst, o, none⟩ :: os) (true :: fl) Q ⟨A, m, d, p⟩ := wpD_float hf h

theorem wpOps_if {o : EOp} {dst : Option Nat} {j : Nat} {w t : Bool} {v : EV} {os : List EOper} {Q : Ex → St → Prop} {A : Fr} {m : Mem} {d : List (FuncId × List EV)} {p : Option (Option EV)} (hq : o.quiet = true) (hj : wantedE A (some (j, w)) = t)
    (hv : t = true → evVal G o A m = some (v, m))
    (h : wpOps T G os Q ⟨setO A dst (if t = true then v else undefE), m, d, p⟩) : wpOps T G (⟨dst, o, some (j, w)⟩ :: os) Q ⟨A, m, d, p⟩ := by
  have hw := hj
  cases htw : t with
  | true =>
    refine wpOps_on (hw.trans htw) (wpOps_step hq ?_)
    rw [htw, if_pos rfl] at h
    simp only [stepE, hv htw]
    cases dst <;> exact h
  | false =>
    rw [htw, if_neg (by simp)] at h
    refine wpOps_off (hw.trans htw) ?_
    cases dst <;> exact h

theorem wpOps_ifcall {f : Opd} {args : List Opd} {dst : Option Nat} {j : Nat} {w t : Bool} {v : EV} {fid : FuncId} {cap : List EV} {p' : Option (Option EV)} {os : List EOper} {Q : Ex → St → Prop} {A : Fr} {m : Mem} {d : List (FuncId × List EV)} {p : Option (Option EV)} (hj : wantedE A (some (j, w)) = t)
    (hf : opd A f = .func fid cap) (hc : t = true → Comes T G fid (args.map (opd A) ++ cap) m none ⟨.val v, m, p'⟩)
    (h : wpOps T G os Q ⟨setO A dst (if t = true then v else undefE), m, d, p⟩) : wpOps T G (⟨dst, .call f args, some (j, w)⟩ :: os) Q ⟨A, m, d, p⟩ := by
  have hw := hj
  cases htw : t with
  | true =>
    refine wpOps_on (hw.trans htw) (wpOps_call hf (hc htw) ?_)
    rw [htw, if_pos rfl] at h
    cases dst <;> exact h
  | false =>
    rw [htw, if_neg (by simp)] at h
    refine wpOps_off (hw.trans htw) ?_
    cases dst <;> exact h

theorem wpD_iffloat {n0 : Nat} {o : EOp} {dst : Option Nat} {j : Nat} {w t : Bool} {v : EV} {os : List EOper} {fl : List Bool} {Q : St → Prop} {A : Fr} {m : Mem} {d : List (FuncId × List EV)} {p : Option (Option EV)} (hj : wantedE A (some (j, w)) = t)
    (hf : t = true → floatOk n0 A o = true) (hv : t = true → evVal G o A m = some (v, m))
    (h : wpD T G n0 os fl Q ⟨setO A dst (if t = true then v else undefE), m, d, p⟩) : wpD T G n0 (⟨dst, o, some (j, w)⟩ :: os) (true :: fl) Q ⟨A, m, d, p⟩ := by
  have hw := hj
  cases htw : t with
  | true =>
    refine wpD_on (hw.trans htw) (wpD_float (hf htw) ?_)
    rw [htw, if_pos rfl] at h
    simp only [stepE, hv htw]
    cases dst <;> exact h
  | false =>
    rw [htw, if_neg (by simp)] at h
    refine wpD_off (hw.trans htw) ?_
    cases dst <;> exact h

theorem wpD_ifstep {n0 : Nat} {o : EOp} {dst : Option Nat} {j : Nat} {w t : Bool} {v : EV} {os : List EOper} {fl : List Bool} {Q : St → Prop} {A : Fr} {m : Mem} {d : List (FuncId × List EV)} {p : Option (Option EV)} (hq : o.quiet = true) (hj : wantedE A (some (j, w)) = t)
    (hv : t = true → evVal G o A m = some (v, m))
    (h : wpD T G n0 os fl Q ⟨setO A dst (if t = true then v else undefE), m, d, p⟩) : wpD T G n0 (⟨dst, o, some (j, w)⟩ :: os) (false :: fl) Q ⟨A, m, d, p⟩ := by
  have hw := hj
  cases htw : t with
  | true =>
    refine wpD_on (hw.trans htw) (wpD_step hq ?_)
    rw [htw, if_pos rfl] at h
    simp only [stepE, hv htw]
    cases dst <;> exact h
  | false =>
    rw [htw, if_neg (by simp)] at h
    refine wpD_off (hw.trans htw) ?_
    cases dst <;> exact h

theorem wpD_ifcall {n0 : Nat} {f : Opd} {args : List Opd} {dst : Option Nat} {j : Nat} {w t : Bool} {v : EV} {fid : FuncId} {cap : List EV} {p' : Option (Option EV)} {os : List EOper} {fl : List Bool} {Q : St → Prop} {A : Fr} {m : Mem} {d : List (FuncId × List EV)} {p : Option (Option EV)} (hj : wantedE A (some (j, w)) = t)
    (hf : opd A f = .func fid cap) (hc : t = true → Comes T G fid (args.map (opd A) ++ cap) m none ⟨.val v, m, p'⟩)
    (h : wpD T G n0 os fl Q ⟨setO A dst (if t = true then v else undefE), m, d, p⟩) : wpD T G n0 (⟨dst, .call f args, some (j, w)⟩ :: os) (false :: fl) Q ⟨A, m, d, p⟩ := by
  have hw := hj
  cases htw : t with
  | true =>
    refine wpD_on (hw.trans htw) (wpD_call hf (hc htw) ?_)
    rw [htw, if_pos rfl] at h
    cases dst <;> exact h
  | false =>
    rw [htw, if_neg (by simp)] at h
    refine wpD_off (hw.trans htw) ?_
    cases dst <;> exact h

/-- A box, its memory under a name. -/
theorem wpOps_box {n : Nat} {x : Opd} {t : Nat} {cs : List EV} {os : List EOper} {Q : Ex → St → Prop} {A : Fr} {m : Mem} {d : List (FuncId × List EV)} {p : Option (Option EV)} (hx : opd A x = .agg cs) (hn : cs.length = n)
    (h : ∀ M, M = m.push (.cells cs 0 true) → wpOps T G os Q ⟨upd A t (.ptr (some ⟨.mem m.bl.length 0, 0⟩)), M, d, p⟩) : wpOps T G (⟨some t, .box n x, none⟩ :: os) Q ⟨A, m, d, p⟩ := by
  refine wpOps_step rfl ?_
  simp only [stepE, evVal, hx, EV.cells, hn, single, and_self, if_true]
  exact h _ rfl

theorem wpOps_new {z : List EV} {t : Nat} {os : List EOper} {Q : Ex → St → Prop} {A : Fr} {m : Mem} {d : List (FuncId × List EV)} {p : Option (Option EV)}
    (h : ∀ M, M = m.push (.cells z 0 true) → wpOps T G os Q ⟨upd A t (.ptr (some ⟨.mem m.bl.length 0, 0⟩)), M, d, p⟩) : wpOps T G (⟨some t, .new z, none⟩ :: os) Q ⟨A, m, d, p⟩ := by
  refine wpOps_step rfl ?_
  simp only [stepE, evVal]
  exact h _ rfl

/-! ### Reading parts of rows -/
/-- Cells of a row, from a place on. -/
def Sub (cs : List EV) (off n : Nat) (ds : List EV) : Prop := off + n ≤ cs.length ∧ (cs.drop off).take n = ds

theorem sub_here {a b : List EV} {n : Nat} (h : a.length = n) : Sub (a ++ b) 0 n a := by
  subst h
  exact ⟨by simp, by simp⟩
theorem sub_all {a : List EV} {n : Nat} (h : a.length = n) : Sub a 0 n a := by
  subst h
  exact ⟨by simp, by simp⟩
theorem sub_skip {a b ds : List EV} {k off n : Nat} (h : a.length = k) (hs : Sub b off n ds) : Sub (a ++ b) (k + off) n ds := by
  subst h
  obtain ⟨h1, h2⟩ := hs
  refine ⟨by simp; omega, ?_⟩
  rw [List.drop_append, List.drop_eq_nil_of_le (by omega), Nat.add_sub_cancel_left, List.nil_append, h2]

theorem sub_one {cs : List EV} {off : Nat} {v : EV} (h : cs[off]? = some v) : Sub cs off 1 [v] := by
  obtain ⟨hl, hv⟩ := List.getElem?_eq_some_iff.1 h
  refine ⟨hl, ?_⟩
  rw [List.drop_eq_getElem_cons hl]
  simp [hv]

theorem one_sub {cs : List EV} {off : Nat} {v : EV} (h : Sub cs off 1 [v]) : cs[off]? = some v := by
  obtain ⟨hl, hv⟩ := h
  rw [List.drop_eq_getElem_cons (show off < cs.length by omega)] at hv
  rw [List.getElem?_eq_getElem (by omega)]
  simp only [List.take_succ_cons, List.take_zero, List.cons.injEq, and_true] at hv
  rw [hv]

theorem sub_sub {cs ds es : List EV} {off n k j : Nat} (h : Sub cs off n ds) (h2 : Sub ds k j es) : Sub cs (off + k) j es := by
  obtain ⟨h1, rfl⟩ := h
  obtain ⟨h3, rfl⟩ := h2
  have : ((cs.drop off).take n).length = n := by simp; omega
  rw [this] at h3
  refine ⟨by omega, ?_⟩
  rw [List.drop_take, List.drop_drop, List.take_take, Nat.min_eq_left (by omega)]

/-- A row of memory. -/
def RowIs (m : Mem) (b : Nat) (cs : List EV) : Prop := m.bl[b]? = some (.cells cs 0 true)

theorem row_push (m : Mem) (cs : List EV) : RowIs (m.push (.cells cs 0 true)) m.bl.length cs := by
  simp [RowIs, Mem.push]
theorem row_keep {m : Mem} {b : Nat} {cs : List EV} {x : Blk} (h : RowIs m b cs) : RowIs (m.push x) b cs := by
  unfold RowIs at h ⊢
  obtain ⟨hl, _⟩ := List.getElem?_eq_some_iff.1 h
  simp only [Mem.push, List.getElem?_append_left hl, h]

theorem getN_row {m : Mem} {b : Nat} {cs ds : List EV} {off n : Nat} (h : RowIs m b cs) (hs : Sub cs off n ds) : m.getN G ⟨.mem b 0, off⟩ n = some ds := by
  obtain ⟨h1, h2⟩ := hs
  unfold Mem.getN
  split
  · rename_i h0
    subst h0
    simp at h2
    rw [h2]
  · have h : m.bl[b]? = some (.cells cs 0 true) := h
    simp only [Mem.row, h, if_true, Option.bind_some, if_pos h1, h2]
theorem get_row {m : Mem} {b : Nat} {cs : List EV} {off : Nat} {v : EV} (h : RowIs m b cs) (hs : Sub cs off 1 [v]) : m.get G ⟨.mem b 0, off⟩ = some v := by
  have h : m.bl[b]? = some (.cells cs 0 true) := h
  simp only [Mem.get, Mem.row, h, if_true, Option.bind_some, one_sub hs]

theorem part_sub {cs ds : List EV} {off n : Nat} (h : Sub cs off n ds) : partE cs off (some n) = some (.agg ds) := by
  simp only [partE, if_pos h.1, h.2]
theorem part_one {cs : List EV} {off : Nat} {v : EV} (h : Sub cs off 1 [v]) : partE cs off none = some v := by
  simp only [partE, one_sub h]

/-! ### Choices of bools -/
theorem pick_or {t u : Bool} {z : EV} : (if t = true then EV.bool true else if (!t) = true then .bool u else z) = .bool (t || u) := by cases t <;> rfl
theorem pick_and {t u : Bool} {z : EV} : (if t = true then (if t = true then EV.bool u else z) else EV.bool false) = .bool (t && u) := by cases t <;> rfl

/-- Memory older than a call, still there in it. -/
def Grown (m M : Mem) : Prop := ∃ l, M.bl = m.bl ++ l
theorem Grown.rfl' {m : Mem} : Grown m m := ⟨[], by simp⟩
theorem Grown.begin {m : Mem} : Grown m ⟨m.bl, m.bl.length⟩ := ⟨[], by simp⟩
theorem Grown.push {m M : Mem} {x : Blk} (h : Grown m M) : Grown m (M.push x) := by
  obtain ⟨l, h⟩ := h
  exact ⟨l ++ [x], by simp [Mem.push, h]⟩
theorem Grown.trans {m M N : Mem} (h : Grown m M) (h2 : Grown M N) : Grown m N := by
  obtain ⟨l, h⟩ := h
  obtain ⟨l2, h2⟩ := h2
  exact ⟨l ++ l2, by rw [h2, h, List.append_assoc]⟩
theorem Grown.le {m M : Mem} (h : Grown m M) : m.bl.length ≤ M.bl.length := by
  obtain ⟨l, h⟩ := h
  rw [h]
  simp

theorem row_grown {m M : Mem} (h : Grown m M) {b : Base} (hb : ∀ k g, b = .mem k g → k < m.bl.length) : M.row G b = m.row G b := by
  obtain ⟨l, h⟩ := h
  cases b with
  | glob g => rfl
  | weak wk => rfl
  | mem k g =>
    have := hb k g rfl
    simp only [Mem.row, h, List.getElem?_append_left this]
theorem row_old {m M : Mem} (h : Grown m M) {b : Base} {cs : List EV} (hr : m.row G b = some cs) : M.row G b = some cs := by
  rw [row_grown h, hr]
  rintro k g rfl
  refine Classical.byContradiction fun hk => ?_
  rw [Mem.row, List.getElem?_eq_none (by omega)] at hr
  cases hr
theorem getN_grown {m M : Mem} (h : Grown m M) {a : Ad} {n : Nat} {cs : List EV} (hg : m.getN G a n = some cs) : M.getN G a n = some cs := by
  unfold Mem.getN at hg ⊢
  split
  · rename_i h0
    rw [if_pos h0] at hg
    exact hg
  · rename_i h0
    rw [if_neg h0] at hg
    cases hr : m.row G a.base with
    | none => rw [hr] at hg; cases hg
    | some c => rw [row_old h hr]; rw [hr] at hg; exact hg

theorem leave_keep {m M : Mem} {v : EV} (hl : m.bl.length ≤ M.low) (h : noref m.bl.length v = true) : leaveE m v M = m := by
  simp only [leaveE, hl, h, and_self, if_true]
theorem Ad.plus_mk {b : Base} {o k : Nat} : (⟨b, o⟩ : Ad).plus k = ⟨b, o + k⟩ := rfl
theorem Ad.plus_plus {a : Ad} {j k : Nat} : (a.plus j).plus k = a.plus (j + k) := by simp only [Ad.plus, Nat.add_assoc]
theorem oldAd_plus {n0 k : Nat} {a : Ad} : oldAd n0 (a.plus k) = oldAd n0 a := rfl
theorem oldAd_mem {n0 b g o : Nat} : oldAd n0 ⟨.mem b g, o⟩ = decide (b < n0) := rfl
theorem oldAd_le {n0 n1 : Nat} {a : Ad} (h : oldAd n0 a = true) (hn : n0 ≤ n1) : oldAd n1 a = true := by
  unfold oldAd at h ⊢
  split at h
  · rfl
  · simp at h ⊢; omega
  · rfl
theorem getN_part0 {m : Mem} {b : Base} {o n k j : Nat} {cs ds : List EV} (h : m.getN G ⟨b, o⟩ n = some cs) (hn : n ≠ 0) (hs : Sub cs k j ds) : m.getN G ⟨b, o + k⟩ j = some ds := by
  unfold Mem.getN at h ⊢
  rw [if_neg hn] at h
  obtain ⟨h1, rfl⟩ := hs
  simp only at h ⊢
  cases hr : m.row G b with
  | none => rw [hr] at h; cases h
  | some c =>
    rw [hr] at h
    simp only [Option.bind_some] at h
    by_cases hle : o + n ≤ c.length
    · rw [if_pos hle] at h
      cases h
      have hl : ((c.drop o).take n).length = n := by simp; omega
      rw [hl] at h1
      split
      · rename_i h0; subst h0; simp
      · simp only [Option.bind_some]
        rw [if_pos (by omega), List.drop_take, List.drop_drop, List.take_take, Nat.min_eq_left (by omega)]
    · rw [if_neg hle] at h
      cases h
theorem get_of_getN {m : Mem} {b : Base} {o : Nat} {v : EV} (h : m.getN G ⟨b, o⟩ 1 = some [v]) : m.get G ⟨b, o⟩ = some v := by
  unfold Mem.getN at h
  rw [if_neg (by omega)] at h
  unfold Mem.get
  simp only at h ⊢
  cases hr : m.row G b with
  | none => rw [hr] at h; cases h
  | some c =>
    rw [hr] at h
    simp only [Option.bind_some] at h ⊢
    by_cases hle : o + 1 ≤ c.length
    · rw [if_pos hle] at h
      exact one_sub ⟨hle, Option.some.inj h⟩
    · rw [if_neg hle] at h
      cases h
theorem getN_part {m : Mem} {a : Ad} {off n k j : Nat} {cs ds : List EV} (h : m.getN G (a.plus off) n = some cs) (hn : n ≠ 0) (hs : Sub cs k j ds) : m.getN G (a.plus (off + k)) j = some ds := by
  have := getN_part0 (b := a.base) (o := a.off + off) h hn hs
  rw [Nat.add_assoc] at this
  exact this
theorem get_part {m : Mem} {a : Ad} {off n k : Nat} {cs : List EV} {v : EV} (h : m.getN G (a.plus off) n = some cs) (hn : n ≠ 0) (hs : Sub cs k 1 [v]) : m.get G (a.plus (off + k)) = some v :=
  get_of_getN (getN_part h hn hs)

theorem splice_all {z cs : List EV} (h : cs.length = z.length) : splice z 0 cs = cs := by
  simp [splice, h]

/-- A new block is written at once, whole. -/
theorem put_new {N M : Mem} {z cs : List EV} (e : M = N.push (.cells z 0 true)) (hl : cs.length = z.length) :
    ∃ N1, M.putN ⟨.mem N.bl.length 0, 0⟩ cs = some N1 ∧ Grown N N1 ∧ RowIs N1 N.bl.length cs ∧ N1.bl.length = N.bl.length + 1 ∧ N1.low = min N.low N.bl.length := by
  subst e
  refine ⟨⟨N.bl ++ [.cells cs 0 true], min N.low N.bl.length⟩, ?_, ⟨_, rfl⟩, ?_, by simp, rfl⟩
  · have h1 : (N.push (.cells z 0 true)).bl[N.bl.length]? = some (.cells z 0 true) := by simp [Mem.push]
    simp only [Mem.putN, Mem.write, h1, Nat.zero_add, hl, true_and, Nat.le_refl, if_true, splice_all hl]
    simp only [Mem.push]
    rw [List.set_append_right _ _ (Nat.le_refl _), Nat.sub_self]
    rfl
  · simp [RowIs]

theorem Mem.get_low {m : Mem} {k : Nat} {a : Ad} : Mem.get G ⟨m.bl, k⟩ a = m.get G a := rfl
theorem Mem.getN_low {m : Mem} {k n : Nat} {a : Ad} : Mem.getN G ⟨m.bl, k⟩ a n = m.getN G a n := rfl

/-- A guard that is itself guarded. -/
theorem wanted_if {A : Fr} {j : Nat} {w c u : Bool} (h : A j = if c = true then EV.bool u else undefE) : wantedE A (some (j, w)) = (c && (u == w)) := by
  cases c <;> simp [wantedE, h, undefE]

/-- As comes_of, the call's memory under a name. -/
theorem comes_ofM {f : FuncId} {args : List EV} {m : Mem} {p : Option (Option EV)} {r : CR} {ef : EFunc} (hT : T f = some ef) (hp : ef.prim = none)
    (h : ∀ M, Grown m M → M.bl.length = m.bl.length → M.low = m.bl.length → wpC T G ef.body (postE G ef.res m r) ⟨argsE args, M, [], p⟩) : Comes T G f args m p r :=
  comes_of hT hp (h _ Grown.begin rfl rfl)

theorem post_ret {res : List ERes} {A : Fr} {m M : Mem} {v : EV} {p : Option (Option EV)} (hr : resultsE G A M res = some [v]) (hl : m.bl.length ≤ M.low) (hn : noref m.bl.length v = true) : postE G res m ⟨.val v, m, p⟩ .ret ⟨A, M, [], p⟩ :=
  ⟨rfl, [v], hr, by simp only [oneE, leave_keep hl hn]⟩

/-! The walk words' laws, together: those of no universe, of one, of two. -/
theorem w0 :
    (∀ (b : Base) (o k : Nat), (⟨b, o⟩ : Ad).plus k = ⟨b, o + k⟩) ∧ (∀ (a : Ad) (j k : Nat), (a.plus j).plus k = a.plus (j + k)) ∧
    (∀ n : Nat, (n : Int).toNat = n) ∧ (∀ p : Prop, (p ∧ p) = p) ∧ (∀ n : Nat, 0 + n = n) ∧ (∀ n : Nat, n + 0 = n) ∧
    (∀ b : Bool, (b == true) = b) ∧ (∀ b : Bool, (b == false) = !b) ∧ (∀ b : Bool, (true && b) = b) ∧ (∀ b : Bool, (false && b) = false) ∧
    (∀ {t u : Bool} {z : EV}, (if t = true then EV.bool true else if (!t) = true then .bool u else z) = .bool (t || u)) ∧ (∀ {t u : Bool} {z : EV}, (if t = true then (if t = true then EV.bool u else z) else EV.bool false) = .bool (t && u)) ∧
    (∀ {G : Globs} {m : Mem} {k : Nat} {a : Ad}, Mem.get G ⟨m.bl, k⟩ a = m.get G a) ∧ (∀ {G : Globs} {m : Mem} {k n : Nat} {a : Ad}, Mem.getN G ⟨m.bl, k⟩ a n = m.getN G a n) ∧
    ((!true) = false) ∧ ((!false) = true) ∧ ((¬ False) = True) ∧ ((¬ True) = False) :=
  ⟨fun _ _ _ => rfl, fun _ _ _ => Ad.plus_plus, fun _ => rfl, fun _ => and_self _, fun _ => Nat.zero_add _, fun _ => rfl, fun b => by cases b <;> rfl, fun b => by cases b <;> rfl, fun _ => rfl, fun _ => rfl,
   pick_or, pick_and, rfl, rfl, rfl, rfl, not_false_eq_true, not_true_eq_false⟩
theorem w1.{u} :
    (∀ {α : Type u} (a : α) (l : List α), (a :: l)[0]? = some a) ∧ (∀ {α : Type u} (a : α) (l : List α) (i : Nat), (a :: l)[i + 1]? = l[i]?) ∧
    (∀ {α : Type u} (a b : α), (some a).getD b = a) ∧ (∀ {α : Type u} (l : List α), l ++ [] = l) ∧ (∀ {α : Type u} [BEq α] [ReflBEq α] (a : α), (a == a) = true) :=
  ⟨fun _ _ => rfl, fun _ _ _ => rfl, fun _ _ => rfl, fun _ => List.append_nil _, fun a => beq_self_eq_true a⟩
theorem w2.{u, v} :
    (∀ {α : Type u} {β : Type v} (a : α) (f : α → β), (some a).map f = some (f a)) ∧ (∀ {α : Type u} {β : Type v} (a : α) (f : α → Option β), (some a).bind f = f a) ∧
    (∀ {α : Type u} {β : Type v} (f : α → β) (l : List α), (l.map f).length = l.length) ∧ (∀ {α : Type u} {β : Type v} (f : α → β) (a : α) (l : List α), (a :: l).map f = f a :: l.map f) ∧ (∀ {α : Type u} {β : Type v} (f : α → β), ([] : List α).map f = []) :=
  ⟨fun _ _ => rfl, fun _ _ => rfl, fun _ _ => List.length_map .., fun _ _ _ => rfl, fun _ => rfl⟩

end Go.Ev
