/- The engine, part 9: '==' between structs and arrays in the machine. There are no conditions. -/
import Derived.Test.YthmmoahdobpfoaaGreatDoorXEv8
import Derived.Laws.StructEq
set_option linter.unusedSectionVars false
set_option linter.unusedVariables false
set_option linter.unusedSimpArgs false
namespace Go.Ev
open Go.RowKit (Below)

theorem eqCells_append : ∀ {k1 k2 : List Nat} {xs ys : List EV} {b : Bool}, eqCells (k1 ++ k2) xs ys = some b → xs.length = (k1 ++ k2).length → ys.length = (k1 ++ k2).length →
    ∃ b1 b2, eqCells k1 (xs.take k1.length) (ys.take k1.length) = some b1 ∧ eqCells k2 (xs.drop k1.length) (ys.drop k1.length) = some b2 ∧ b = (b1 && b2)
  | [], k2, xs, ys, b, h, _, _ => ⟨true, b, by simp [eqCells], by simpa using h, by simp⟩
  | k :: k1, k2, xs, ys, b, h, hx, hy => by
    cases xs with
    | nil => simp at hx
    | cons x xs =>
      cases ys with
      | nil => simp at hy
      | cons y ys =>
        simp only [List.cons_append, eqCells] at h
        split at h
        · rename_i a c ha hc
          cases h
          obtain ⟨b1, b2, h1, h2, h3⟩ := eqCells_append hc (by simpa using hx) (by simpa using hy)
          exact ⟨a && b1, b2, by simp [eqCells, ha, h1], by simpa using h2, by rw [h3, Bool.and_assoc]⟩
        · cases h

section
variable {P : Program} {j : Inj} {m : Mem}

theorem run_partAgg {t : TypeId} {n : Nat} (h : ∃ d, P.underlying t = some d ∧ ((∃ fs, d = .struct fs) ∨ ∃ k e, d = .array k e)) (hn : sizeC P t = some n) (X : Array Value) (off : Nat) (w : World) :
    (part t X off).run P w = .ok (.agg (X.extract off (off + n))) w := by
  obtain ⟨d, hd, h⟩ := h
  rcases h with ⟨fs, rfl⟩ | ⟨k, e, rfl⟩ <;> simp [part, isAgg, underlying, hd, run_size hn]

theorem run_partOne {t : TypeId} (h : P.underlying t = some .bool ∨ (∃ k, P.underlying t = some (.int k)) ∨ P.underlying t = some .string) {X : Array Value} {off : Nat} {v : Value} (hv : X[off]? = some v) (w : World) :
    (part t X off).run P w = .ok v w := by
  rcases h with h | ⟨k, h⟩ | h <;> simp [part, isAgg, underlying, h, hv]

/-- Elements of an array, held against each other one by one. -/
def eqElems (D n : Nat) (e : TypeId) (xs ys : Array Value) : List Nat → Sem Bool
  | [] => pure true
  | i :: is => do
    let a ← part e xs (i * n)
    let b ← part e ys (i * n)
    let r ← Op.equalIn D e a b
    if (!r) = true then pure false else eqElems D n e xs ys is

theorem run_equalIn_array (w : World) (D : Nat) (t e : TypeId) (len n : Nat) (xs ys : Array Value) (ht : P.underlying t = some (.array len e)) (hn : sizeC P e = some n) :
    (Op.equalIn (D + 1) t (.agg xs) (.agg ys)).run P w = (eqElems D n e xs ys (List.range len)).run P w := by
  simp only [Op.equalIn, Sem.run_bind, run_underlying ht, Result.andThen_ok, run_size hn]
  simp only [Std.Legacy.Range.forIn_eq_forIn_range', Std.Legacy.Range.size, Nat.sub_zero, Nat.add_one_sub_one, Nat.div_one, ← List.range_eq_range']
  generalize List.range len = is
  induction is generalizing w with
  | nil => simp [eqElems]
  | cons f fs ih =>
    simp only [List.forIn_cons, eqElems, Sem.run_bind]
    generalize (part e xs (f * n)).run P w = r1
    cases r1 with
    | ok a w1 =>
      simp only [Result.andThen_ok]
      generalize (part e ys (f * n)).run P w1 = r2
      cases r2 with
      | ok b w2 =>
        simp only [Result.andThen_ok]
        generalize (Op.equalIn D e a b).run P w2 = r3
        cases r3 with
        | ok r w3 =>
          cases r
          · simp only [Result.andThen_ok, Bool.not_false, if_true, Sem.run_pure]
          · simp only [Result.andThen_ok, Bool.not_true, Bool.false_eq_true, if_false, Sem.run_pure]
            exact ih w3
        | halt x w3 => simp [Result.andThen]
      | halt x w2 => simp [Result.andThen]
    | halt x w1 => simp [Result.andThen]

/-- What is asked of a type: its cells, held against each other, tell whether two values are the same. -/
def EqAt (P : Program) (j : Inj) (m : Mem) (w : World) (D : Nat) (t : TypeId) (ks : List Nat) : Prop :=
  ∀ (lx ly : List EV) (X Y : Array Value) (off : Nat) (b : Bool), VsRel j m lx ((X.toList.drop off).take ks.length) → VsRel j m ly ((Y.toList.drop off).take ks.length) → lx.length = ks.length → ly.length = ks.length →
    eqCells ks lx ly = some b → ∃ u v, (part t X off).run P w = .ok u w ∧ (part t Y off).run P w = .ok v w ∧ (Op.equalIn D t u v).run P w = .ok b w

theorem eq_leaf {w : World} {D : Nat} {t : TypeId} {k : Nat} (h : k = 1 ∧ P.underlying t = some .bool ∨ k = 2 ∧ (∃ q, P.underlying t = some (.int q)) ∨ k = 3 ∧ P.underlying t = some .string) : EqAt P j m w (D + 1) t [k] := by
  intro lx ly X Y off b hx hy hlx hly he
  have hu : P.underlying t = some .bool ∨ (∃ k, P.underlying t = some (.int k)) ∨ P.underlying t = some .string := by
    rcases h with ⟨_, h⟩ | ⟨_, h⟩ | ⟨_, h⟩
    · exact .inl h
    · exact .inr (.inl h)
    · exact .inr (.inr h)
  match lx, hlx with
  | [x], _ =>
    match ly, hly with
    | [y], _ =>
      obtain ⟨u, hu1, hxu⟩ := hx.get 0 x rfl
      obtain ⟨v, hv1, hyv⟩ := hy.get 0 y rfl
      have hXu : X[off]? = some u := by simpa [List.getElem?_take, List.getElem?_drop] using hu1
      have hYv : Y[off]? = some v := by simpa [List.getElem?_take, List.getElem?_drop] using hv1
      refine ⟨u, v, run_partOne hu hXu w, run_partOne hu hYv w, ?_⟩
      simp only [eqCells] at he
      split at he
      case h_2 => cases he
      rename_i a c ha hc
      cases hc
      cases he
      rw [Bool.and_true]
      rcases h with ⟨rfl, h⟩ | ⟨rfl, q, h⟩ | ⟨rfl, h⟩
      · cases x <;> cases y <;> first | (simp [eqCell] at ha; done) | skip
        simp only [eqCell] at ha
        cases ha; cases hxu; cases hyv
        exact run_equalIn_bool w D t _ _ h
      · cases x <;> cases y <;> first | (simp [eqCell] at ha; done) | skip
        simp only [eqCell] at ha
        split at ha
        · rename_i hkk; cases ha; cases hxu; cases hyv; subst hkk; exact run_equalIn_int w D t _ q _ _ h
        · cases ha
      · cases x <;> cases y <;> first | (simp [eqCell] at ha; done) | skip
        simp only [eqCell] at ha
        cases ha; cases hxu; cases hyv
        have := run_equalIn_string (P := P) w D t ⟨(‹List UInt8›).toArray⟩ ⟨(‹List UInt8›).toArray⟩ h
        rw [run_equalIn_string w D t _ _ h]
        simp

theorem eq_fields {w : World} {D : Nat} {d : Nat} (hD : ∀ t ks, flatK P d t = some ks → EqAt P j m w D t ks ∧ sizeC P t = some ks.length) : ∀ {fs : List Field} {o : Nat} {ks : List Nat}, fieldsK (flatK P d) fs o = some ks →
    ∀ {lx ly : List EV} {X Y : Array Value} {b : Bool}, VsRel j m lx ((X.toList.drop o).take ks.length) → VsRel j m ly ((Y.toList.drop o).take ks.length) → lx.length = ks.length → ly.length = ks.length → eqCells ks lx ly = some b →
    (Op.eqFields D X Y fs).run P w = .ok b w
  | [], o, ks, h, lx, ly, X, Y, b, hx, hy, hlx, hly, he => by
    simp only [fieldsK] at h
    cases h
    cases lx with
    | nil =>
      cases ly with
      | nil => simp only [eqCells] at he; cases he; rfl
      | cons _ _ => simp at hly
    | cons _ _ => simp at hlx
  | f :: fs, o, ks, h, lx, ly, X, Y, b, hx, hy, hlx, hly, he => by
    simp only [fieldsK] at h
    split at h
    case isFalse => cases h
    rename_i hn
    obtain ⟨hname, hoff⟩ := hn
    obtain ⟨k1, hk1, h⟩ := Option.bind_eq_some_iff.1 h
    obtain ⟨k2, hk2, rfl⟩ := Option.map_eq_some_iff.1 h
    obtain ⟨hEq, hsz⟩ := hD _ _ hk1
    obtain ⟨b1, b2, h1, h2, rfl⟩ := eqCells_append he hlx hly
    have cut : ∀ {l : List EV} {Z : Array Value}, VsRel j m l ((Z.toList.drop o).take (k1 ++ k2).length) → VsRel j m (l.take k1.length) ((Z.toList.drop o).take k1.length) ∧ VsRel j m (l.drop k1.length) ((Z.toList.drop (o + k1.length)).take k2.length) := by
      intro l Z hl
      refine ⟨?_, ?_⟩
      · have := hl.take k1.length
        rw [List.take_take] at this
        simpa using this
      · have := hl.drop k1.length
        rw [List.drop_take, List.drop_drop] at this
        simpa using this
    obtain ⟨cx1, cx2⟩ := cut hx
    obtain ⟨cy1, cy2⟩ := cut hy
    simp only [List.length_append] at hlx hly
    obtain ⟨u, v, pu, pv, pe⟩ := hEq _ _ X Y o b1 cx1 cy1 (by simp; omega) (by simp; omega) h1
    have ih := eq_fields hD hk2 cx2 cy2 (by simp; omega) (by simp; omega) h2
    subst hoff
    simp only [Op.eqFields, if_pos hname, Sem.run_bind, pu, pv, pe, Result.andThen_ok]
    cases b1
    · simp
    · simpa using ih

theorem eq_elems {w : World} {D : Nat} {e : TypeId} {k : List Nat} (hD : EqAt P j m w D e k) : ∀ (n s : Nat) {lx ly : List EV} {X Y : Array Value} {b : Bool}, VsRel j m lx ((X.toList.drop (s * k.length)).take (n * k.length)) → VsRel j m ly ((Y.toList.drop (s * k.length)).take (n * k.length)) →
    lx.length = n * k.length → ly.length = n * k.length → eqCells (List.replicate n k).flatten lx ly = some b → (eqElems D k.length e X Y (List.range' s n)).run P w = .ok b w
  | 0, s, lx, ly, X, Y, b, hx, hy, hlx, hly, he => by
    cases lx with
    | nil =>
      cases ly with
      | nil => simp [eqCells] at he; cases he; rfl
      | cons _ _ => simp at hly
    | cons _ _ => simp at hlx
  | n + 1, s, lx, ly, X, Y, b, hx, hy, hlx, hly, he => by
    rw [List.replicate_succ, List.flatten_cons] at he
    have hfl : (List.replicate n k).flatten.length = n * k.length := by simp
    have hsum : (n + 1) * k.length = k.length + n * k.length := by rw [Nat.add_mul, Nat.one_mul, Nat.add_comm]
    obtain ⟨b1, b2, h1, h2, rfl⟩ := eqCells_append he (by rw [List.length_append, hfl]; omega) (by rw [List.length_append, hfl]; omega)
    have cut : ∀ {l : List EV} {Z : Array Value}, VsRel j m l ((Z.toList.drop (s * k.length)).take ((n + 1) * k.length)) →
        VsRel j m (l.take k.length) ((Z.toList.drop (s * k.length)).take k.length) ∧ VsRel j m (l.drop k.length) ((Z.toList.drop ((s + 1) * k.length)).take (n * k.length)) := by
      intro l Z hl
      refine ⟨?_, ?_⟩
      · have := hl.take k.length
        rw [List.take_take, hsum] at this
        rwa [Nat.min_eq_left (by omega)] at this
      · have := hl.drop k.length
        rw [List.drop_take, List.drop_drop, hsum] at this
        rw [show k.length + n * k.length - k.length = n * k.length by omega] at this
        rwa [show (s + 1) * k.length = s * k.length + k.length by rw [Nat.add_mul, Nat.one_mul]]
    obtain ⟨cx1, cx2⟩ := cut hx
    obtain ⟨cy1, cy2⟩ := cut hy
    obtain ⟨u, v, pu, pv, pe⟩ := hD _ _ X Y _ b1 cx1 cy1 (by simp; omega) (by simp; omega) h1
    have ih := eq_elems hD n (s + 1) cx2 cy2 (by simp; omega) (by simp; omega) h2
    simp only [List.range'_succ, eqElems, Sem.run_bind, pu, pv, pe, Result.andThen_ok]
    cases b1
    · simp
    · simpa using ih

theorem eq_flat {w : World} : ∀ (d : Nat) (D : Nat), d ≤ D → ∀ (t : TypeId) (ks : List Nat), flatK P d t = some ks → EqAt P j m w D t ks ∧ sizeC P t = some ks.length
  | 0, _, _, t, ks, h => by simp [flatK] at h
  | d + 1, D, hdD, t, ks, h => by
    obtain ⟨D, rfl⟩ : ∃ q, D = q + 1 := ⟨D - 1, by omega⟩
    simp only [flatK] at h
    split at h
    · rename_i hu
      split at h
      · rename_i hs; cases h; exact ⟨eq_leaf (.inl ⟨rfl, hu⟩), hs⟩
      · cases h
    · rename_i hu
      split at h
      · rename_i hs; cases h; exact ⟨eq_leaf (.inr (.inl ⟨rfl, _, hu⟩)), hs⟩
      · cases h
    · rename_i hu
      split at h
      · rename_i hs; cases h; exact ⟨eq_leaf (.inr (.inr ⟨rfl, hu⟩)), hs⟩
      · cases h
    · rename_i fs hu
      obtain ⟨k, hk, h⟩ := Option.bind_eq_some_iff.1 h
      split at h
      case isFalse => cases h
      rename_i hc
      obtain ⟨hs, hst⟩ := hc
      cases h
      refine ⟨fun lx ly X Y off b hx hy hlx hly he => ?_, hs⟩
      refine ⟨_, _, run_partAgg ⟨_, hu, .inl ⟨_, rfl⟩⟩ hs X off w, run_partAgg ⟨_, hu, .inl ⟨_, rfl⟩⟩ hs Y off w, ?_⟩
      have hfo : P.fieldsOf t = fs := by simp [Program.fieldsOf, hu]
      rw [run_equalIn_struct w D t _ _ (by rw [hfo]; exact hu) hst, hfo]
      refine eq_fields (fun t' k' hk' => eq_flat d D (by omega) t' k' hk') hk ?_ ?_ hlx hly he
      · simpa [List.drop_take, List.take_take] using hx
      · simpa [List.drop_take, List.take_take] using hy
    · rename_i n e hu
      obtain ⟨k, hk, h⟩ := Option.bind_eq_some_iff.1 h
      split at h
      case isFalse => cases h
      rename_i hc
      obtain ⟨hse, hst⟩ := hc
      cases h
      have hfl : (List.replicate n k).flatten.length = n * k.length := by simp
      refine ⟨fun lx ly X Y off b hx hy hlx hly he => ?_, by rw [hfl]; exact hst⟩
      rw [hfl] at hx hy hlx hly
      refine ⟨_, _, run_partAgg ⟨_, hu, .inr ⟨_, _, rfl⟩⟩ hst X off w, run_partAgg ⟨_, hu, .inr ⟨_, _, rfl⟩⟩ hst Y off w, ?_⟩
      rw [run_equalIn_array w D t e n k.length _ _ hu hse, List.range_eq_range']
      refine eq_elems (eq_flat d D (by omega) e k hk).1 n 0 ?_ ?_ hlx hly he
      · simpa [List.drop_take, List.take_take] using hx
      · simpa [List.drop_take, List.take_take] using hy
    · cases h


theorem run_eqBool {w : World} {t : TypeId} (h : P.underlying t = some .bool) (op : BinOp) (xo yo : Operand) {x y : Bool} {r : EV} (hr : binE op [9] (.bool x) (.bool y) = some r) :
    ∃ v, (do eqGuard op t xo yo (.bool x) (.bool y); binOp op t (.bool x) (.bool y) : Sem Value).run P w = .ok v w ∧ VRel j m r v := by
  have he : (Op.equal t (.bool x) (.bool y)).run P w = .ok (x == y) w := equal_run (run_equalIn_bool w 9999 t x y h)
  simp only [binE, if_true] at hr
  rw [eqGuard_at_bool]
  cases op <;> simp only at hr <;> first | (cases hr; done) | skip
  · cases hr
    exact ⟨.bool (x == y), by simp [binOp, he], rfl⟩
  · cases hr
    exact ⟨.bool !(x == y), by simp [binOp, he], rfl⟩

theorem run_eqAgg {w : World} {t : TypeId} {op : BinOp} {xo yo : Operand} {xs ys : List EV} {u v : Value} (hx : VRel j m (.agg xs) u) (hy : VRel j m (.agg ys) v) {r : EV} (hr : binE op (eqC P t) (.agg xs) (.agg ys) = some r) :
    ∃ z, (do eqGuard op t xo yo u v; binOp op t u v : Sem Value).run P w = .ok z w ∧ VRel j m r z := by
  obtain ⟨cx, rfl, rx, _⟩ := hx
  obtain ⟨cy, rfl, ry, _⟩ := hy
  simp only [binE] at hr
  obtain ⟨b, hb, hop⟩ : ∃ b, eqCells (eqC P t) xs ys = some b ∧ ((op = .eql ∧ r = .bool b) ∨ (op = .neq ∧ r = .bool !b)) := by
    cases op <;> simp only at hr <;> first | (cases hr; done) | skip
    · obtain ⟨b, hb, rfl⟩ := Option.map_eq_some_iff.1 hr; exact ⟨b, hb, .inl ⟨rfl, rfl⟩⟩
    · obtain ⟨b, hb, rfl⟩ := Option.map_eq_some_iff.1 hr; exact ⟨b, hb, .inr ⟨rfl, rfl⟩⟩
  have hzero : eqC P t ≠ [0] := by
    intro e
    rw [e] at hb
    cases xs with
    | nil => simp [eqCells] at hb
    | cons x xs =>
      cases ys with
      | nil => simp [eqCells] at hb
      | cons y ys => simp [eqCells, eqCell] at hb
  have hlens : ∀ {ks : List Nat} {xs ys : List EV} {b : Bool}, eqCells ks xs ys = some b → xs.length = ks.length ∧ ys.length = ks.length := by
    intro ks
    induction ks with
    | nil =>
      intro xs ys b h
      cases xs <;> cases ys <;> simp [eqCells] at h
      exact ⟨rfl, rfl⟩
    | cons k ks ih =>
      intro xs ys b h
      cases xs with
      | nil => simp [eqCells] at h
      | cons x xs =>
        cases ys with
        | nil => simp [eqCells] at h
        | cons y ys =>
          simp only [eqCells] at h
          split at h
          · rename_i hh
            obtain ⟨h1, h2⟩ := ih hh
            simp [h1, h2]
          · cases h
  obtain ⟨hlx, hly⟩ := hlens hb
  have hkind : P.eqGuardType P.depth t = false ∧ (∃ d, P.underlying t = some d ∧ ((∃ fs, d = .struct fs) ∨ ∃ k e, d = .array k e)) ∧ flatK P 30 t = some (eqC P t) := by
    unfold eqC at hzero hb ⊢
    split at hzero
    · rename_i hu
      rw [hu] at hb
      simp only at hb
      cases xs with
      | nil => simp [eqCells] at hb
      | cons x xs =>
        cases ys with
        | nil => simp [eqCells] at hb
        | cons y ys => simp [eqCells, eqCell] at hb
    · rename_i fs hu
      rw [hu]
      split at hzero
      · exact absurd rfl hzero
      · rename_i hg
        cases hf : flatK P 30 t with
        | none => rw [hf] at hzero; exact absurd rfl hzero
        | some ks =>
          rw [hf] at hzero
          simp only at hzero
          by_cases h9 : ks = [9]
          · rw [if_pos h9] at hzero; exact absurd rfl hzero
          · exact ⟨by simpa using hg, ⟨_, rfl, .inl ⟨_, rfl⟩⟩, by simp [hg, h9]⟩
    · rename_i k e hu
      rw [hu]
      split at hzero
      · exact absurd rfl hzero
      · rename_i hg
        cases hf : flatK P 30 t with
        | none => rw [hf] at hzero; exact absurd rfl hzero
        | some ks =>
          rw [hf] at hzero
          simp only at hzero
          by_cases h9 : ks = [9]
          · rw [if_pos h9] at hzero; exact absurd rfl hzero
          · exact ⟨by simpa using hg, ⟨_, rfl, .inr ⟨_, _, rfl⟩⟩, by simp [hg, h9]⟩
    · exact absurd rfl hzero
  obtain ⟨hg, hu, hf⟩ := hkind
  obtain ⟨hE, hs⟩ := eq_flat (P := P) (j := j) (m := m) (w := w) 30 10000 (by omega) t _ hf
  have hcx : cx.toList.length = (eqC P t).length := by rw [rx.length, hlx]
  have hcy : cy.toList.length = (eqC P t).length := by rw [ry.length, hly]
  obtain ⟨u, v, pu, pv, pe⟩ := hE xs ys cx cy 0 b (by rw [List.drop_zero, ← hcx, List.take_length]; exact rx) (by rw [List.drop_zero, ← hcy, List.take_length]; exact ry) hlx hly hb
  rw [run_partAgg hu hs] at pu pv
  cases pu
  cases pv
  have ex : cx.extract 0 (0 + (eqC P t).length) = cx := by
    apply Array.ext'
    simp [← hcx]
  have ey : cy.extract 0 (0 + (eqC P t).length) = cy := by
    apply Array.ext'
    simp [← hcy]
  rw [ex, ey] at pe
  have hgr := run_eqGuard_agg (P := P) w op t xo yo cx cy hg
  rcases hop with ⟨rfl, rfl⟩ | ⟨rfl, rfl⟩
  · exact ⟨.bool b, by simp only [Sem.run_bind, hgr, Result.andThen_ok]; rw [run_eql_struct, pe]; rfl, rfl⟩
  · exact ⟨.bool !b, by simp only [Sem.run_bind, hgr, Result.andThen_ok]; rw [run_neq_struct, pe]; rfl, rfl⟩
end
end Go.Ev
