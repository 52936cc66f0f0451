/- The engine, part 92: maps in the machine: an entry is looked for, laid, written over, taken out; numbers with a point. There are no conditions. -/
import Derived.Test.YthmmoahdobpfoaaGreatDoorXEv9
import Derived.Test.YthmmoahdobpfoaaGreatDoorXEv91
import Derived.MapKept
import Derived.WideKeyRuns
set_option linter.unusedSectionVars false
set_option linter.unusedVariables false
set_option linter.unusedSimpArgs false
namespace Go.Ev
open Go.RowKit (Below)

section
variable {P : Program} {G : Globs} {base : Nat} {w0 w : World} {j : Inj} {m : Mem}

/-! ### Keys -/
theorem eqCell_true {k : Nat} {x y : EV} (h : eqCell k x y = some true) {u v : Value} (hx : VRel j m x u) (hy : VRel j m y v) : u = v ∧ ∀ n, Instr.sameBits n u u = true := by
  unfold eqCell at h
  split at h
  · rename_i a b
    cases hx; cases hy
    simp only [Option.some.injEq, beq_iff_eq] at h
    subst h
    exact ⟨rfl, fun n => by cases n <;> simp [Instr.sameBits]⟩
  · rename_i k a k' b
    split at h
    · cases hx; cases hy
      simp only [Option.some.injEq, beq_iff_eq] at h
      rename_i e
      subst h; subst e
      exact ⟨rfl, fun n => by cases n <;> simp [Instr.sameBits]⟩
    · cases h
  · rename_i a b
    cases hx; cases hy
    simp only [Option.some.injEq, beq_iff_eq] at h
    subst h
    exact ⟨rfl, fun n => by cases n <;> simp [Instr.sameBits, (MapKept.bytes_beq _ _).2]⟩
  · cases h

theorem eqCells_true : ∀ {ks : List Nat} {xs ys : List EV} {us vs : List Value}, eqCells ks xs ys = some true → VsRel j m xs us → VsRel j m ys vs → us = vs ∧ ∀ n, ∀ u ∈ us, Instr.sameBits n u u = true
  | [], [], [], us, vs, _, hx, hy => by
    simp only [VsRel] at hx hy
    subst hx; subst hy
    exact ⟨rfl, by simp⟩
  | k :: ks, x :: xs, y :: ys, us, vs, h, hx, hy => by
    simp only [eqCells] at h
    split at h
    · rename_i a b ha hb
      simp only [Option.some.injEq, Bool.and_eq_true] at h
      obtain ⟨rfl, rfl⟩ := h
      simp only [VsRel] at hx hy
      obtain ⟨u, us', rfl, h1, h2⟩ := hx
      obtain ⟨v, vs', rfl, h3, h4⟩ := hy
      obtain ⟨rfl, e1⟩ := eqCell_true ha h1 h3
      obtain ⟨rfl, e2⟩ := eqCells_true hb h2 h4
      refine ⟨rfl, fun n z hz => ?_⟩
      rcases List.mem_cons.1 hz with rfl | hz
      · exact e1 n
      · exact e2 n z hz
    · cases h
  | [], [], _ :: _, _, _, h, _, _ => by simp [eqCells] at h
  | [], _ :: _, _, _, _, h, _, _ => by simp [eqCells] at h
  | _ :: _, [], _, _, _, h, _, _ => by simp [eqCells] at h
  | _ :: _, _ :: _, [], _, _, h, _, _ => by simp [eqCells] at h

theorem zip_self {α : Type} : ∀ (l : List α), l.zip l = l.map fun x => (x, x)
  | [] => rfl
  | x :: l => by simp [zip_self l]

theorem keyEq_leaf {q : List Nat} {x y : EV} {b : Bool} (h : keyEqE q x y = some b) (hna : ∀ xs ys, ¬ (x = .agg xs ∧ y = .agg ys)) : ∃ k, q = [k] ∧ 10 < k ∧ eqCell (k - 10) x y = some b := by
  unfold keyEqE at h
  split at h
  · exact absurd ⟨rfl, rfl⟩ (hna _ _)
  · split at h
    · rename_i k
      split at h
      · rename_i hk
        exact ⟨k, rfl, hk, h⟩
      · cases h
    · cases h

theorem keyEq_true {q : List Nat} {x y : EV} (h : keyEqE q x y = some true) {u v : Value} (hx : VRel j m x u) (hy : VRel j m y v) : u = v ∧ Instr.sameBits 10000 u u = true := by
  by_cases hna : ∃ xs ys, x = .agg xs ∧ y = .agg ys
  · obtain ⟨xs, ys, rfl, rfl⟩ := hna
    obtain ⟨c, rfl, h1, _⟩ := hx
    obtain ⟨d, rfl, h2, _⟩ := hy
    obtain ⟨e, hs⟩ := eqCells_true (by simpa only [keyEqE] using h) h1 h2
    have e : c = d := Array.toList_inj.1 e
    subst e
    refine ⟨rfl, ?_⟩
    have : Instr.sameBits (9999 + 1) (.agg c) (.agg c) = true := by
      simp only [Instr.sameBits, zip_self, List.all_map, Bool.and_eq_true, beq_self_eq_true, true_and, List.all_eq_true]
      exact fun z hz => hs 9999 z hz
    exact this
  · obtain ⟨k, rfl, hk, he⟩ := keyEq_leaf h (fun xs ys e => hna ⟨xs, ys, e⟩)
    obtain ⟨e, hs⟩ := eqCell_true he hx hy
    exact ⟨e, hs _⟩

/-- The kind of a plain key. -/
theorem keyC_leaf {t : TypeId} {k : Nat} (h : keyC P t = some [k]) (hk : 10 < k) : k = 11 ∧ P.underlying t = some .bool ∨ k = 12 ∧ (∃ q, P.underlying t = some (.int q)) ∨ k = 13 ∧ P.underlying t = some .string ∨
    flatK P 30 t = some [k] ∧ ∃ d, P.underlying t = some d ∧ ((∃ fs, d = .struct fs) ∨ ∃ n e, d = .array n e) := by
  unfold keyC at h
  split at h
  · rename_i hu; cases h; exact .inl ⟨rfl, hu⟩
  · rename_i q hu; cases h; exact .inr (.inl ⟨rfl, q, hu⟩)
  · rename_i hu; cases h; exact .inr (.inr (.inl ⟨rfl, hu⟩))
  · rename_i fs hu
    split at h
    · cases h
    · exact .inr (.inr (.inr ⟨h, _, hu, .inl ⟨_, rfl⟩⟩))
  · rename_i n e hu
    split at h
    · cases h
    · exact .inr (.inr (.inr ⟨h, _, hu, .inr ⟨_, _, rfl⟩⟩))
  · cases h

/-- All kinds are those of cells. -/
theorem flat_small : ∀ (d : Nat) {t : TypeId} {ks : List Nat}, flatK P d t = some ks → ∀ k ∈ ks, k ≤ 3
  | 0, t, ks, h => by simp [flatK] at h
  | d + 1, t, ks, h => by
    have hfs : ∀ (fs : List Field) (o : Nat) (ks : List Nat), fieldsK (flatK P d) fs o = some ks → ∀ k ∈ ks, k ≤ 3 := by
      intro fs
      induction fs with
      | nil => intro o ks h; simp only [fieldsK] at h; cases h; simp
      | cons f fs ih =>
        intro o ks h
        simp only [fieldsK] at h
        split at h
        case isFalse => cases h
        obtain ⟨k1, hk1, h⟩ := Option.bind_eq_some_iff.1 h
        obtain ⟨k2, hk2, rfl⟩ := Option.map_eq_some_iff.1 h
        intro k hk
        rcases List.mem_append.1 hk with hk | hk
        · exact flat_small d hk1 k hk
        · exact ih _ _ hk2 k hk
    simp only [flatK] at h
    split at h
    · split at h
      · cases h; simp
      · cases h
    · split at h
      · cases h; simp
      · cases h
    · split at h
      · cases h; simp
      · cases h
    · obtain ⟨k, hk, h⟩ := Option.bind_eq_some_iff.1 h
      split at h
      · cases h; exact hfs _ _ _ hk
      · cases h
    · obtain ⟨k, hk, h⟩ := Option.bind_eq_some_iff.1 h
      split at h
      · cases h
        intro q hq
        obtain ⟨l, hl, hq⟩ := List.mem_flatten.1 hq
        rw [(List.mem_replicate.1 hl).2] at hq
        exact flat_small d hk q hq
      · cases h
    · cases h

/-- A key of cells alone may be looked for. -/
def CkAt (P : Program) (em : Bool) (w : World) (D : Nat) (t : TypeId) (n : Nat) : Prop :=
  ∀ (X : Array Value) (off : Nat), off + n ≤ X.size → ∃ u, (part t X off).run P w = .ok u w ∧ (Instr.checkKey em D t u).run P w = .ok () w

theorem check_leaf {em : Bool} {w : World} {D : Nat} {t : TypeId} (h : P.underlying t = some .bool ∨ (∃ k, P.underlying t = some (.int k)) ∨ P.underlying t = some .string) (u : Value) : (Instr.checkKey em (D + 1) t u).run P w = .ok () w := by
  rcases h with h | ⟨k, h⟩ | h <;> simp [Instr.checkKey, run_underlying h]

theorem fields_all {kinds : TypeId → Option (List Nat)} : ∀ {fs : List Field} {o : Nat} {ks : List Nat}, fieldsK kinds fs o = some ks → ∀ f ∈ fs, f.name ≠ "_" ∧ ∃ k1, kinds f.type = some k1 ∧ f.offset + k1.length ≤ o + ks.length
  | [], _, _, _, f, hf => by simp at hf
  | g :: fs, o, ks, h, f, hf => by
    simp only [fieldsK] at h
    split at h
    case isFalse => cases h
    rename_i hn
    obtain ⟨k1, hk1, h⟩ := Option.bind_eq_some_iff.1 h
    obtain ⟨k2, hk2, rfl⟩ := Option.map_eq_some_iff.1 h
    rcases List.mem_cons.1 hf with rfl | hf
    · exact ⟨hn.1, k1, hk1, by simp; omega⟩
    · obtain ⟨h1, k3, h2, h3⟩ := fields_all hk2 f hf
      exact ⟨h1, k3, h2, by simp; omega⟩

theorem check_flat {em : Bool} {w : World} : ∀ (d : Nat) (D : Nat), d ≤ D → ∀ (t : TypeId) (ks : List Nat), flatK P d t = some ks → CkAt P em w D t ks.length ∧ sizeC P t = some ks.length
  | 0, _, _, t, ks, h => by simp [flatK] at h
  | d + 1, D, hdD, t, ks, h => by
    obtain ⟨D, rfl⟩ : ∃ q, D = q + 1 := ⟨D - 1, by omega⟩
    have leaf : (P.underlying t = some .bool ∨ (∃ k, P.underlying t = some (.int k)) ∨ P.underlying t = some .string) → CkAt P em w (D + 1) t 1 := by
      intro hu X off hX
      exact ⟨X[off], run_partOne hu (Array.getElem?_eq_getElem (by omega)) w, check_leaf hu _⟩
    simp only [flatK] at h
    split at h
    · rename_i hu
      split at h
      · rename_i hs; cases h; exact ⟨leaf (.inl hu), hs⟩
      · cases h
    · rename_i hu
      split at h
      · rename_i hs; cases h; exact ⟨leaf (.inr (.inl ⟨_, hu⟩)), hs⟩
      · cases h
    · rename_i hu
      split at h
      · rename_i hs; cases h; exact ⟨leaf (.inr (.inr hu)), hs⟩
      · cases h
    · rename_i fs hu
      obtain ⟨k, hk, h⟩ := Option.bind_eq_some_iff.1 h
      split at h
      case isFalse => cases h
      rename_i hc
      obtain ⟨hs, hst⟩ := hc
      cases h
      refine ⟨fun X off hX => ?_, hs⟩
      refine ⟨_, run_partAgg ⟨_, hu, .inl ⟨_, rfl⟩⟩ hs X off w, ?_⟩
      rw [Instr.checkKey]
      simp only [Sem.run_bind, run_underlying hu, Result.andThen_ok]
      rw [← Array.forIn_toList]
      have hl : (X.extract off (off + ks.length)).size = ks.length := by simp; omega
      have each : ∀ f ∈ fs.toList, f.name ≠ "_" ∧ ∃ u, (part f.type (X.extract off (off + ks.length)) f.offset).run P w = .ok u w ∧ (Instr.checkKey em D f.type u).run P w = .ok () w := by
        intro f hf
        obtain ⟨h1, k1, hk1, h2⟩ := fields_all hk f hf
        obtain ⟨hC, _⟩ := check_flat (em := em) (w := w) d D (by omega) _ _ hk1
        exact ⟨h1, hC (X.extract off (off + ks.length)) f.offset (by omega)⟩
      clear hk
      generalize fs.toList = L at each
      induction L with
      | nil => simp
      | cons f L ih =>
        obtain ⟨hn, u, pu, pc⟩ := each f (by simp)
        simp only [List.forIn_cons, Sem.run_bind, hn, ne_eq, not_false_eq_true, if_true, Result.andThen_ok, pu, pc, Sem.run_pure]
        exact ih (fun y hy => each y (by simp [hy]))
    · rename_i n e hu
      obtain ⟨k, hk, h⟩ := Option.bind_eq_some_iff.1 h
      split at h
      case isFalse => cases h
      rename_i hc
      obtain ⟨hse, hst⟩ := hc
      cases h
      have hfl : (List.replicate n k).flatten.length = n * k.length := by simp
      refine ⟨fun X off hX => ?_, by rw [hfl]; exact hst⟩
      rw [hfl] at hX
      refine ⟨_, run_partAgg ⟨_, hu, .inr ⟨_, _, rfl⟩⟩ hst X off w, ?_⟩
      rw [Instr.checkKey]
      simp only [Sem.run_bind, run_underlying hu, Result.andThen_ok]
      simp only [Std.Legacy.Range.forIn_eq_forIn_range', Std.Legacy.Range.size, Nat.sub_zero, Nat.add_one_sub_one, Nat.div_one]
      have hl : (X.extract off (off + n * k.length)).size = n * k.length := by simp; omega
      have each : ∀ i ∈ List.range' 0 n, i < n := fun i hi => by simpa using hi
      generalize List.range' 0 n = is at each
      induction is with
      | nil => simp
      | cons i is ih =>
        have hi := each i (by simp)
        have hin : i * k.length + k.length ≤ n * k.length := by
          rw [← Nat.succ_mul]; exact Nat.mul_le_mul_right _ hi
        obtain ⟨u, pu, pc⟩ := (check_flat (em := em) (w := w) d D (by omega) e k hk).1 (X.extract off (off + n * k.length)) (i * k.length) (by omega)
        simp only [List.forIn_cons, Sem.run_bind, run_size hse, Result.andThen_ok, pu, pc, Sem.run_pure]
        exact ih (fun y hy => each y (by simp [hy]))
    · cases h

theorem eqCells_len : ∀ {ks : List Nat} {xs ys : List EV} {b : Bool}, eqCells ks xs ys = some b → xs.length = ks.length ∧ ys.length = ks.length
  | [], [], [], _, _ => ⟨rfl, rfl⟩
  | k :: ks, x :: xs, y :: ys, b, h => by
    simp only [eqCells] at h
    split at h
    · rename_i hh
      obtain ⟨h1, h2⟩ := eqCells_len hh
      simp [h1, h2]
    · cases h
  | [], [], _ :: _, _, h => by simp [eqCells] at h
  | [], _ :: _, _, _, h => by simp [eqCells] at h
  | _ :: _, [], _, _, h => by simp [eqCells] at h
  | _ :: _, _ :: _, [], _, h => by simp [eqCells] at h

def isWide (P : Program) (t : TypeId) : Prop := ∃ d, P.underlying t = some d ∧ ((∃ fs, d = .struct fs) ∨ ∃ n e, d = .array n e)
theorem isWide.bool {t : TypeId} (h : isWide P t) : (match P.underlying t with | some (.array _ _) | some (.struct _) => true | _ => false) = true := by
  obtain ⟨d, hd, h⟩ := h
  rcases h with ⟨fs, rfl⟩ | ⟨n, e, rfl⟩ <;> rw [hd]

/-- What is asked of keys of one type. -/
theorem keyC_cases {t : TypeId} {q : List Nat} (h : keyC P t = some q) : (q = [11] ∧ P.underlying t = some .bool ∨ q = [12] ∧ (∃ k, P.underlying t = some (.int k)) ∨ q = [13] ∧ P.underlying t = some .string) ∨ (flatK P 30 t = some q ∧ isWide P t) := by
  unfold keyC at h
  split at h
  · rename_i hu; cases h; exact .inl (.inl ⟨rfl, hu⟩)
  · rename_i q hu; cases h; exact .inl (.inr (.inl ⟨rfl, q, hu⟩))
  · rename_i hu; cases h; exact .inl (.inr (.inr ⟨rfl, hu⟩))
  · rename_i fs hu
    split at h
    · cases h
    · exact .inr ⟨h, _, hu, .inl ⟨_, rfl⟩⟩
  · rename_i n e hu
    split at h
    · cases h
    · exact .inr ⟨h, _, hu, .inr ⟨_, _, rfl⟩⟩
  · cases h

/-- Two keys that are held against each other, of a wide type, are rows of cells. -/
theorem keyEq_wide {t : TypeId} {q : List Nat} (hq : flatK P 30 t = some q) {x y : EV} {b : Bool} (h : keyEqE q x y = some b) : ∃ xs ys, x = .agg xs ∧ y = .agg ys ∧ eqCells q xs ys = some b := by
  by_cases hna : ∃ xs ys, x = .agg xs ∧ y = .agg ys
  · obtain ⟨xs, ys, rfl, rfl⟩ := hna
    exact ⟨xs, ys, rfl, rfl, by simpa only [keyEqE] using h⟩
  · obtain ⟨k, rfl, hk, he⟩ := keyEq_leaf h (fun xs ys e => hna ⟨xs, ys, e⟩)
    have := flat_small 30 hq k (by simp)
    omega

theorem agg_size {ks : List Nat} {xs ys : List EV} {b : Bool} (h : eqCells ks xs ys = some b) {c : Array Value} (hx : VsRel j m xs c.toList) : c.size = ks.length := by
  have := hx.length
  have h2 := (eqCells_len h).1
  simp at this
  omega

theorem part_whole {t : TypeId} {n : Nat} (h : isWide P t) (hn : sizeC P t = some n) {X : Array Value} (hX : X.size = n) (w : World) : (part t X 0).run P w = .ok (.agg X) w := by
  rw [run_partAgg h hn X 0 w]
  congr 2
  apply Array.ext'
  simp [← hX]

theorem check_run {t : TypeId} {q : List Nat} (hk : keyC P t = some q) {x : EV} (h : keyEqE q x x = some true) {u : Value} (hx : VRel j m x u) (em : Bool) (w : World) : (Instr.checkKey em 10000 t u).run P w = .ok () w := by
  rcases keyC_cases hk with hl | ⟨hf, hw⟩
  · refine check_leaf (D := 9999) ?_ u
    rcases hl with ⟨_, h⟩ | ⟨_, h⟩ | ⟨_, h⟩
    · exact .inl h
    · exact .inr (.inl h)
    · exact .inr (.inr h)
  · obtain ⟨xs, ys, rfl, e, he⟩ := keyEq_wide hf h
    cases e
    obtain ⟨c, rfl, r, _⟩ := hx
    have hsz := agg_size he r
    obtain ⟨hC, hs⟩ := check_flat (P := P) (em := em) (w := w) 30 10000 (by omega) t q hf
    obtain ⟨v, pv, pc⟩ := hC c 0 (by omega)
    rw [part_whole hw hs hsz] at pv
    cases pv
    exact pc

/-- Two keys held against each other by '=='. -/
theorem equal_key {t : TypeId} {q : List Nat} (hf : flatK P 30 t = some q) (hw : isWide P t) {x y : EV} {b : Bool} (h : keyEqE q x y = some b) {u v : Value} (hx : VRel j m x u) (hy : VRel j m y v) (w : World) : (Op.equal t u v).run P w = .ok b w := by
  obtain ⟨xs, ys, rfl, rfl, he⟩ := keyEq_wide hf h
  obtain ⟨c, rfl, rx, _⟩ := hx
  obtain ⟨d, rfl, ry, _⟩ := hy
  obtain ⟨hE, hs⟩ := eq_flat (P := P) (j := j) (m := m) (w := w) 30 10000 (by omega) t _ hf
  obtain ⟨l1, l2⟩ := eqCells_len he
  have hc : c.size = q.length := by have := rx.length; simp at this; omega
  have hd : d.size = q.length := by have := ry.length; simp at this; omega
  obtain ⟨u, v, pu, pv, pe⟩ := hE xs ys c d 0 b (by rw [List.drop_zero, ← hc, Array.size_eq_length_toList, List.take_length]; exact rx) (by rw [List.drop_zero, ← hd, Array.size_eq_length_toList, List.take_length]; exact ry) l1 l2 he
  rw [part_whole hw hs hc] at pu
  rw [part_whole hw hs hd] at pv
  cases pu
  cases pv
  exact equal_run pe

/-- Entries here and there. -/
def EntsRel (j : Inj) (m : Mem) (es : List Ent) (es' : List MapEntry) : Prop :=
  es'.length = es.length ∧ ∀ (i : Nat) (e : Ent), es[i]? = some e → ∃ e' : MapEntry, es'[i]? = some e' ∧ VRel j m e.key e'.key ∧ VRel j m e.val e'.val ∧ e'.born = e.born

/-- What looking for a key comes to. -/
def FoundRel (j : Inj) (m : Mem) (es : List Ent) (es' : List MapEntry) (u : Value) (r : Option (Nat × EV)) (r' : Option (Nat × Value)) (i : Nat) : Prop :=
  match r with
  | none => r' = none
  | some (k, v) => ∃ n e e' v', k = i + n ∧ r' = some (k, v') ∧ VRel j m v v' ∧ es[n]? = some e ∧ es'[n]? = some e' ∧ e'.key = u ∧ e'.born = e.born

theorem find_run {t : TypeId} {q : List Nat} (hk : keyC P t = some q) {x : EV} {u : Value} (hx : VRel j m x u) (w : World) : ∀ {es : List Ent} {es' : List MapEntry} {i : Nat} {r : Option (Nat × EV)}, EntsRel j m es es' → findE q x es i = some r →
    ∃ r', FoundRel j m es es' u r r' i ∧ ((∃ d, P.underlying t = some d ∧ Instr.findNow d u es' i = some r') ∨ isWide P t) ∧ (isWide P t → (Instr.findAsking t u es' i).run P w = .ok r' w)
  | [], es', i, r, he, h => by
    simp only [findE] at h
    cases h
    have : es' = [] := List.length_eq_zero_iff.1 he.1
    subst this
    refine ⟨none, rfl, ?_, fun _ => by simp [Instr.findAsking]⟩
    rcases keyC_cases hk with hl | ⟨_, hw⟩
    · rcases hl with ⟨_, h⟩ | ⟨_, k, h⟩ | ⟨_, h⟩ <;> exact .inl ⟨_, h, rfl⟩
    · exact .inr hw
  | e :: es, es', i, r, he, h => by
    obtain ⟨hl, hall⟩ := he
    cases es' with
    | nil => simp at hl
    | cons e' es' =>
      obtain ⟨e2, h2, hkey, hval, hborn⟩ := hall 0 e rfl
      simp at h2
      subst h2
      have rest : EntsRel j m es es' := ⟨by simpa using hl, fun k z hz => by simpa using hall (k + 1) z (by simpa using hz)⟩
      have now : ∀ b, keyEqE q x e.key = some b → (∃ d, P.underlying t = some d ∧ Instr.sameNow d u e'.key = some b) ∨ isWide P t := by
        intro b hb
        rcases keyC_cases hk with hl | ⟨_, hw⟩
        · left
          have na : ∀ xs ys, ¬ (x = .agg xs ∧ e.key = .agg ys) := by
            rintro xs ys ⟨rfl, e3⟩
            rw [e3] at hb
            simp only [keyEqE] at hb
            have : ∀ k, 10 < k → eqCells [k] xs ys = some b → False := by
              intro k hk10 hc
              obtain ⟨l1, l2⟩ := eqCells_len hc
              match xs, ys, l1, l2 with
              | [a], [c], _, _ =>
                simp only [eqCells] at hc
                split at hc
                · rename_i h1 _
                  unfold eqCell at h1
                  split at h1 <;> first | omega | cases h1
                · cases hc
            rcases hl with ⟨rfl, _⟩ | ⟨rfl, _⟩ | ⟨rfl, _⟩
            · exact this 11 (by omega) hb
            · exact this 12 (by omega) hb
            · exact this 13 (by omega) hb
          obtain ⟨k, rfl, _, hc⟩ := keyEq_leaf hb na
          rcases hl with ⟨e3, hu⟩ | ⟨e3, kk, hu⟩ | ⟨e3, hu⟩ <;> cases e3
          · refine ⟨_, hu, ?_⟩
            unfold eqCell at hc
            split at hc <;> first | omega | skip
            · rename_i a c _ e4
              rw [e4] at hkey
              cases hx
              rw [hkey]
              exact hc
            · cases hc
          · refine ⟨_, hu, ?_⟩
            unfold eqCell at hc
            split at hc <;> first | omega | skip
            · rename_i k1 a k2 c _ e4
              rw [e4] at hkey
              cases hx
              rw [hkey]
              exact hc
            · cases hc
          · refine ⟨_, hu, ?_⟩
            unfold eqCell at hc
            split at hc <;> first | omega | skip
            · rename_i a c _ e4
              rw [e4] at hkey
              cases hx
              rw [hkey]
              simp only [Instr.sameNow]
              rw [← hc]
              congr 1
              rw [Bool.eq_iff_iff, MapKept.bytes_beq, beq_iff_eq]
              simp
            · cases hc
        · exact .inr hw
      have ask : ∀ b, keyEqE q x e.key = some b → isWide P t → (Op.equal t u e'.key).run P w = .ok b w := by
        intro b hb hw
        rcases keyC_cases hk with hl | ⟨hf, _⟩
        · obtain ⟨d, hd, hc⟩ := hw
          rcases hl with ⟨_, h⟩ | ⟨_, k, h⟩ | ⟨_, h⟩ <;> rw [h] at hd <;> cases hd <;> rcases hc with ⟨_, hc⟩ | ⟨_, _, hc⟩ <;> cases hc
        · exact equal_key hf hw hb hx hkey w
      simp only [findE] at h
      split at h
      · rename_i ht
        cases h
        obtain ⟨e3, _⟩ := keyEq_true ht hx hkey
        refine ⟨some (i, e'.val), ⟨0, e, e', e'.val, rfl, rfl, hval, rfl, rfl, e3.symm, hborn⟩, ?_, fun hw => ?_⟩
        · rcases now _ ht with ⟨d, hd, hn⟩ | hw
          · exact .inl ⟨d, hd, by simp [Instr.findNow, hn]⟩
          · exact .inr hw
        · simp [Instr.findAsking, ask _ ht hw]
      · rename_i ht
        obtain ⟨r', hr, hn', ha'⟩ := find_run hk hx w rest h
        refine ⟨r', ?_, ?_, fun hw => ?_⟩
        · unfold FoundRel at hr ⊢
          split
          · exact hr
          · obtain ⟨n, z, z', v', e4, h3⟩ := hr
            refine ⟨n + 1, z, z', v', by omega, ?_⟩
            simpa using h3
        · rcases hn' with ⟨d, hd, hf⟩ | hw
          · rcases now _ ht with ⟨d', hd', hn⟩ | hw
            · rw [hd] at hd'
              cases hd'
              exact .inl ⟨d, hd, by simp [Instr.findNow, hn, hf]⟩
            · exact .inr hw
          · exact .inr hw
        · simp [Instr.findAsking, ask _ ht hw, ha' hw]
      · cases h

theorem findKey_run {t : TypeId} {q : List Nat} (hk : keyC P t = some q) {x : EV} {u : Value} (hx : VRel j m x u) (w : World) {es : List Ent} {es' : List MapEntry} {r : Option (Nat × EV)} (he : EntsRel j m es es') (h : findE q x es 0 = some r) :
    ∃ r', FoundRel j m es es' u r r' 0 ∧ (Instr.findKey t u es').run P w = .ok r' w := by
  obtain ⟨r', hr, h1, h2⟩ := find_run hk hx w he h
  refine ⟨r', hr, ?_⟩
  by_cases hw : isWide P t
  · rw [run_findKey_eq w hw.bool]
    exact h2 hw
  · rcases h1 with ⟨d, hd, hf⟩ | h1
    · exact MapKept.run_findKey hd hf
    · exact absurd h1 hw

theorem look_spec {q : List Nat} {x : EV} {es : List Ent} {r : Option (Nat × EV)} (h : lookE q x es = some r) : keyEqE q x x = some true ∧ findE q x es 0 = some r := by
  unfold lookE at h
  split at h
  · rename_i hk
    exact ⟨hk, h⟩
  · cases h

theorem MemRel.ents (hm : MemRel G base w0 j m w) {r : Nat} {es : List Ent} {ck : Nat} (hb : m.bl[r]? = some (.map es ck)) : ∃ es' : Array MapEntry, w.heap[j.blk r]? = some (.map es' ck) ∧ EntsRel j m es es'.toList := by
  obtain ⟨_, es', hes, hl, hel⟩ := hm.maps r es ck hb
  exact ⟨es', hes, by simpa using hl, fun i e hi => by simpa using hel i e hi⟩

theorem run_lookup (hm : MemRel G base w0 j m w) {t kt et : TypeId} (ht : P.underlying t = some (.map kt et)) {q : List Nat} (hk : keyC P kt = some q) {z : EV} (hz : zeroC P et = some z) {x : EV} {u : Value} (hx : VRel j m x u)
    {ref : Option Nat} {v : Value} (hr : VRel j m (.map ref) v) {es : List Ent} (hes : match ref with | none => es = [] | some r => ∃ ck, m.bl[r]? = some (.map es ck)) {f : Option (Nat × EV)} (hf : lookE q x es = some f) (ok : Bool) :
    Runs P G base w0 j m w (Instr.lookup t v u ok) (lookR z ok f, m) := by
  obtain ⟨zv, hzv, hzr⟩ := run_zero hz
  have hzx := constE_rel (j := j) (m := m) hzv
  obtain ⟨hkk, hff⟩ := look_spec hf
  have fin : ∀ (es' : Array MapEntry), EntsRel j m es es'.toList → Runs P G base w0 j m w (do
        Instr.checkKey es'.isEmpty 10000 kt u
        let (v, o) ← match ← Instr.findKey kt u es'.toList with
          | some (_, v) => pure (v, true)
          | none => pure (← zeroValue et, false)
        pure (if ok then .tuple #[v, .bool o] else v)) (lookR z ok f, m) := by
    intro es' he
    obtain ⟨r', hr', hrun⟩ := findKey_run hk hx w he hff
    have hc := check_run hk hkk hx es'.isEmpty w
    unfold FoundRel at hr'
    cases f with
    | none =>
      simp only at hr'
      subst hr'
      cases ok
      · exact .same hm (v := zv) (by simp [hc, hrun, hzr]) hzx
      · exact .same hm (v := .tuple #[zv, .bool false]) (by simp [hc, hrun, hzr]) ⟨_, rfl, _, _, rfl, hzx, _, _, rfl, rfl, rfl⟩
    | some y =>
      obtain ⟨k, y⟩ := y
      obtain ⟨n, e, e', v', _, rfl, hv', _⟩ := hr'
      cases ok
      · exact .same hm (v := v') (by simp [hc, hrun]) hv'
      · exact .same hm (v := .tuple #[v', .bool true]) (by simp [hc, hrun]) ⟨_, rfl, _, _, rfl, hv', _, _, rfl, rfl, rfl⟩
  cases ref with
  | none =>
    simp only at hes
    subst hes
    cases hr
    have := fin #[] ⟨rfl, fun i e hi => by simp at hi⟩
    unfold Instr.lookup
    obtain ⟨j', v, w', h1, h2⟩ := this
    refine ⟨j', v, w', ?_, h2⟩
    rw [← h1]
    simp [run_underlying ht]
    rfl
  | some r =>
    obtain ⟨ck, hb⟩ := hes
    obtain ⟨r', rfl, _, hrr⟩ := hr
    have e := hrr ⟨_, rfl, hb⟩
    subst e
    obtain ⟨es', hh, he⟩ := hm.ents hb
    have := fin es' he
    unfold Instr.lookup
    obtain ⟨j', v, w', h1, h2⟩ := this
    refine ⟨j', v, w', ?_, h2⟩
    rw [← h1]
    simp [run_underlying ht, MapKept.run_getObj_map hh]
    rfl

/-- Entries of a map are replaced. -/
theorem MemRel.remap (hm : MemRel G base w0 j m w) {r : Nat} {es es1 : List Ent} {ck ck1 : Nat} (hb : m.bl[r]? = some (.map es ck)) {es' es1' : Array MapEntry} (hh : w.heap[j.blk r]? = some (.map es' ck)) (he : EntsRel j m es1 es1'.toList) (low : Nat) :
    (setObj (j.blk r) (.map es1' ck1)).run P w = .ok () { w with heap := w.heap.setIfInBounds (j.blk r) (.map es1' ck1) } ∧ Ext j m j ⟨m.bl.set r (.map es1 ck1), low⟩ ∧
      MemRel G base w0 j ⟨m.bl.set r (.map es1 ck1), low⟩ { w with heap := w.heap.setIfInBounds (j.blk r) (.map es1' ck1) } := by
  have hlt : r < m.bl.length := (List.getElem?_eq_some_iff.1 hb).1
  obtain ⟨hbase, _⟩ := hm.maps r es ck hb
  have hext : Ext j m j ⟨m.bl.set r (.map es1 ck1), low⟩ := by
    refine ⟨by simp, fun k hk => ?_, fun k gk hk hgk hl => ?_, fun k hk hl => ?_, fun _ _ h => h⟩
    · rw [genAt_set hlt]
      split
      · rename_i e
        subst e
        simp [genAt, hb, Blk.gen]
      · exact Nat.le_refl _
    · obtain ⟨cs', rw', hl⟩ := hl
      simp only [bl_set hlt] at hl
      split at hl
      · cases hl
      · exact ⟨⟨cs', rw', hl⟩, rfl, rfl, rfl⟩
    · obtain ⟨e1, c1, hl⟩ := hl
      simp only [bl_set hlt] at hl
      split at hl
      · rename_i e
        subst e
        exact ⟨⟨_, rfl, hb⟩, rfl⟩
      · exact ⟨⟨e1, c1, hl⟩, rfl⟩
  obtain ⟨hs1, hs2⟩ := MapKept.heap_set (o' := .map es1' ck1) hh
  have hne : ∀ k, k ≠ r → (∃ cs gen rw, m.bl[k]? = some (.cells cs gen rw)) ∨ liveMap m k → (w.heap.setIfInBounds (j.blk r) (.map es1' ck1))[j.blk k]? = w.heap[j.blk k]? := fun k hk hl =>
    hs2 _ (fun e => hm.inj r k (Ne.symm hk) (.inr ⟨_, rfl, hb⟩) hl e.symm)
  refine ⟨MapKept.run_setObj_map _ hh, hext, ⟨hm.below.os, hm.below.tape, hm.below.output, by simpa using hm.below.size, fun k hk => (hs2 k (by omega)).trans (hm.below.block k hk)⟩, by simpa using hm.big, fun g' cs' hg' => ?_, fun k cs' gen' rw' hk => ?_, fun k e1 c1 hk => ?_, fun k k' hkk h1 h2 => ?_, fun k s p hk => ?_, fun k cs' gen' rw' ck tyk frk hk hh hty => ?_, fun R z hR => ?_⟩
  · obtain ⟨hlt', ho, cg, tyg, frg, hcg, hrg⟩ := hm.globs g' cs' hg'
    exact ⟨hlt', ho, cg, tyg, frg, (hs2 _ (by omega)).trans hcg, hrg.ext hext⟩
  · simp only [bl_set hlt] at hk
    split at hk
    · cases hk
    · rename_i e
      obtain ⟨ho, c, ty, fr, hc, hs, hr, hw⟩ := hm.cells k cs' gen' rw' hk
      exact ⟨ho, c, ty, fr, (hne k (Ne.symm e) (.inl ⟨cs', gen', rw', hk⟩)).trans hc, hs, hr.ext hext, hw⟩
  · simp only [bl_set hlt] at hk
    split at hk
    · rename_i e
      subst e
      cases hk
      refine ⟨hbase, es1', hs1, by simpa using he.1, fun i x hi => ?_⟩
      obtain ⟨e', h1, h2, h3, h4⟩ := he.2 i x hi
      exact ⟨e', by simpa using h1, VRel.ext hext _ h2, VRel.ext hext _ h3, h4⟩
    · rename_i e
      obtain ⟨hb1, e2, hes, hl, hel⟩ := hm.maps k e1 c1 hk
      refine ⟨hb1, e2, (hne k (Ne.symm e) (.inr ⟨_, rfl, hk⟩)).trans hes, hl, fun i x hi => ?_⟩
      obtain ⟨e', h1, h2, h3, h4⟩ := hel i x hi
      exact ⟨e', h1, VRel.ext hext _ h2, VRel.ext hext _ h3, h4⟩
  · have r1 : (∃ cs gen, m.bl[k]? = some (.cells cs gen true)) ∨ liveMap m k := by
      rcases h1 with ⟨cs', gen', h1⟩ | ⟨e1, c1, h1⟩
      · simp only [bl_set hlt] at h1
        split at h1
        · cases h1
        · exact .inl ⟨cs', gen', h1⟩
      · simp only [bl_set hlt] at h1
        split at h1
        · rename_i e; subst e; exact .inr ⟨_, rfl, hb⟩
        · exact .inr ⟨e1, c1, h1⟩
    have r2 : (∃ cs gen rw, m.bl[k']? = some (.cells cs gen rw)) ∨ liveMap m k' := by
      rcases h2 with ⟨cs', gen', rw', h2⟩ | ⟨e1, c1, h2⟩
      · simp only [bl_set hlt] at h2
        split at h2
        · cases h2
        · exact .inl ⟨cs', gen', rw', h2⟩
      · simp only [bl_set hlt] at h2
        split at h2
        · rename_i e; subst e; exact .inr ⟨_, rfl, hb⟩
        · exact .inr ⟨e1, c1, h2⟩
    exact hm.inj k k' hkk r1 r2
  · simp only [bl_set hlt] at hk
    split at hk
    · cases hk
    · rename_i e
      obtain ⟨q1, q2⟩ := hm.other k s p hk
      exact ⟨q1, (hne k (Ne.symm e) (.inr ⟨_, rfl, hk⟩)).trans q2⟩
  · simp only [bl_set hlt] at hk
    split at hk
    · cases hk
    · rename_i e
      rw [hne k (Ne.symm e) (.inl ⟨cs', gen', rw', hk⟩)] at hh
      exact hm.typed k cs' gen' rw' ck tyk frk hk hh hty
  · obtain ⟨r1, ⟨cR, tR, fR, r2, r3⟩, r4⟩ := hm.garb R z hR
    refine ⟨r1, ⟨cR, tR, fR, (hs2 R fun e => r4 r (.inr ⟨_, rfl, hb⟩) e.symm).trans r2, r3⟩, fun k hk => r4 k ?_⟩
    rcases hk with ⟨cs', gen', rw', hk⟩ | ⟨x, hx, hk⟩
    · simp only [bl_set hlt] at hk
      split at hk
      · cases hk
      · exact .inl ⟨cs', gen', rw', hk⟩
    · simp only [bl_set hlt] at hk
      split at hk
      · rename_i e; subst e; exact .inr ⟨_, rfl, hb⟩
      · exact .inr ⟨x, hx, hk⟩

theorem setEnt_get (k v : EV) : ∀ (es : List Ent) (i n : Nat), (setEnt es i k v)[n]? = if n = i then (es[n]?).map (fun e => ⟨k, v, e.born⟩) else es[n]?
  | [], i, n => by simp [setEnt]
  | e :: es, 0, n => by cases n <;> simp [setEnt]
  | e :: es, i + 1, n => by
    cases n with
    | zero => simp [setEnt]
    | succ n => simp [setEnt, setEnt_get k v es i n]
theorem setEnt_len (k v : EV) : ∀ (es : List Ent) (i : Nat), (setEnt es i k v).length = es.length
  | [], _ => rfl
  | e :: es, 0 => rfl
  | e :: es, i + 1 => by simp [setEnt, setEnt_len k v es i]

theorem run_mapSet (hm : MemRel G base w0 j m w) {t kt et : TypeId} (ht : P.underlying t = some (.map kt et)) {q : List Nat} (hk : keyC P kt = some q) {x y : EV} {u s : Value} (hx : VRel j m x u) (hy : VRel j m y s)
    {r : Nat} {v : Value} (hr : VRel j m (.map (some r)) v) {es : List Ent} {ck : Nat} (hb : m.bl[r]? = some (.map es ck)) {f : Option (Nat × EV)} (hf : lookE q x es = some f) (low : Nat) :
    ∃ w', (Instr.mapUpdate t v u s).run P w = .ok () w' ∧ ∃ m', m' = (⟨m.bl.set r (entPut x y es ck f), low⟩ : Mem) ∧ Ext j m j m' ∧ MemRel G base w0 j m' w' := by
  obtain ⟨hkk, hff⟩ := look_spec hf
  obtain ⟨r', rfl, _, hrr⟩ := hr
  have e := hrr ⟨_, rfl, hb⟩
  subst e
  obtain ⟨es', hh, he⟩ := hm.ents hb
  obtain ⟨r', hr', hrun⟩ := findKey_run hk hx w he hff
  have hc := check_run hk hkk hx false w
  obtain ⟨_, hbits⟩ := keyEq_true hkk hx hx
  unfold FoundRel at hr'
  cases f with
  | none =>
    simp only at hr'
    subst hr'
    have he1 : EntsRel j m (es ++ [⟨x, y, ck⟩]) (es'.push { key := u, val := s, born := ck }).toList := by
      refine ⟨by simpa using he.1, fun i e hi => ?_⟩
      have hl : es'.toList.length = es.length := he.1
      simp only [Array.toList_push]
      by_cases hlt : i < es.length
      · rw [List.getElem?_append_left hlt] at hi
        rw [List.getElem?_append_left (by omega)]
        exact he.2 i e hi
      · rw [List.getElem?_append_right (by omega)] at hi
        rw [List.getElem?_append_right (by omega), hl]
        have h0 : i - es.length = 0 := by
          have := (List.getElem?_eq_some_iff.1 hi).1
          simp at this
          exact this
        rw [h0] at hi ⊢
        simp at hi
        subst hi
        exact ⟨_, rfl, hx, hy, rfl⟩
    obtain ⟨h1, h2, h3⟩ := hm.remap (P := P) (ck1 := ck + 1) hb hh he1 low
    refine ⟨_, ?_, _, rfl, h2, h3⟩
    simp [Instr.mapUpdate, run_underlying ht, MapKept.run_getObj_map hh, hc, hrun, h1]
  | some y0 =>
    obtain ⟨k, y0⟩ := y0
    obtain ⟨n, e, e', v', hkn, rfl, _, hn, hn', hkey, hborn⟩ := hr'
    rw [Nat.zero_add] at hkn
    subst hkn
    have hn2 : es'[k]? = some e' := by simpa using hn'
    have hl : es'.toList.length = es.length := he.1
    have he1 : EntsRel j m (setEnt es k x y) (es'.modify k fun e => { e with key := u, val := s }).toList := by
      refine ⟨by rw [setEnt_len]; simpa using hl, fun i z hi => ?_⟩
      rw [setEnt_get] at hi
      by_cases hik : i = k
      · subst hik
        rw [if_pos rfl, hn] at hi
        cases hi
        exact ⟨{ e' with key := u, val := s }, by simp [Array.getElem?_modify, hn2], hx, hy, hborn⟩
      · rw [if_neg hik] at hi
        obtain ⟨z', h1, h2⟩ := he.2 i z hi
        refine ⟨z', ?_, h2⟩
        have : es'[i]? = some z' := by simpa using h1
        simp [Array.getElem?_modify, Ne.symm hik, this]
    obtain ⟨h1, h2, h3⟩ := hm.remap (P := P) (ck1 := ck) hb hh he1 low
    refine ⟨_, ?_, _, rfl, h2, h3⟩
    have hst : (Instr.keyThatStays (((es'[k]?).map (·.key)).getD u) u).run P w = .ok u w := by
      rw [hn2]
      simp only [Option.map_some, Option.getD_some, hkey]
      simp [Instr.keyThatStays, hbits]
    simp [Instr.mapUpdate, run_underlying ht, MapKept.run_getObj_map hh, hc, hrun, hst, h1]

theorem run_mapDel (hm : MemRel G base w0 j m w) {t kt et ty kt2 : TypeId} (ht : P.underlying t = some (.map kt et)) {q : List Nat} (hk : keyC P kt = some q) {x : EV} {u : Value} (hx : VRel j m x u)
    {r : Nat} {v : Value} (hr : VRel j m (.map (some r)) v) {es : List Ent} {ck : Nat} (hb : m.bl[r]? = some (.map es ck)) {f : Option (Nat × EV)} (hf : lookE q x es = some f) (low : Nat) :
    ∃ w', (Builtin.delete_ #[t, kt2] ty #[v, u]).run P w = .ok (.tuple #[]) w' ∧ ∃ m', m' = (⟨m.bl.set r (entDel es ck f), low⟩ : Mem) ∧ Ext j m j m' ∧ MemRel G base w0 j m' w' := by
  obtain ⟨hkk, hff⟩ := look_spec hf
  obtain ⟨r', rfl, _, hrr⟩ := hr
  have e := hrr ⟨_, rfl, hb⟩
  subst e
  obtain ⟨es', hh, he⟩ := hm.ents hb
  obtain ⟨r', hr', hrun⟩ := findKey_run hk hx w he hff
  have hc := check_run hk hkk hx es'.isEmpty w
  unfold FoundRel at hr'
  cases f with
  | none =>
    simp only at hr'
    subst hr'
    obtain ⟨h1, h2, h3⟩ := hm.remap (P := P) (ck1 := ck) hb hh he low
    refine ⟨_, ?_, _, rfl, h2, h3⟩
    simp [Builtin.delete_, run_underlying ht, MapKept.run_getObj_map hh, hc, hrun, h1]
  | some y0 =>
    obtain ⟨k, y0⟩ := y0
    obtain ⟨n, e, e', v', hkn, rfl, _, hn, hn', hkey, hborn⟩ := hr'
    rw [Nat.zero_add] at hkn
    subst hkn
    have hl : es'.toList.length = es.length := he.1
    have hlt : k < es.length := (List.getElem?_eq_some_iff.1 hn).1
    have hlt2 : k < es'.size := by simpa using (by omega : k < es'.toList.length)
    have he1 : EntsRel j m (es.eraseIdx k) (es'.eraseIdxIfInBounds k).toList := by
      have e1 : (es'.eraseIdxIfInBounds k).toList = es'.toList.eraseIdx k := by
        simp [Array.eraseIdxIfInBounds, hlt2]
      rw [e1]
      refine ⟨by rw [List.length_eraseIdx, List.length_eraseIdx, hl], fun i z hi => ?_⟩
      rw [List.getElem?_eraseIdx] at hi ⊢
      split at hi
      · rename_i hik
        rw [if_pos hik]
        exact he.2 i z hi
      · rename_i hik
        rw [if_neg hik]
        exact he.2 _ z hi
    obtain ⟨h1, h2, h3⟩ := hm.remap (P := P) (ck1 := ck) hb hh he1 low
    refine ⟨_, ?_, _, rfl, h2, h3⟩
    simp [Builtin.delete_, run_underlying ht, MapKept.run_getObj_map hh, hc, hrun, h1]

theorem run_mapDelNil (hm : MemRel G base w0 j m w) {t kt et ty kt2 : TypeId} (ht : P.underlying t = some (.map kt et)) {q : List Nat} (hk : keyC P kt = some q) {x : EV} {u : Value} (hx : VRel j m x u) (hkk : keyEqE q x x = some true) :
    (Builtin.delete_ #[t, kt2] ty #[.map none, u]).run P w = .ok (.tuple #[]) w := by
  have hc := check_run hk hkk hx true w
  simp [Builtin.delete_, run_underlying ht, hc]

/-! ### A row of bytes of a constant gets its mark -/
theorem run_markRow (hm : MemRel G base w0 j m w) {src e : TypeId} (hs : P.underlying src = some (.slice e)) (he : P.underlying e = some (.int .u8)) {b gen o n c z : Nat} {cs : List EV} (hb : m.bl[b]? = some (.cells cs gen true)) (hc : c ≠ 0)
    {v : Value} (hx : VRel j m (.slice (some ⟨.mem b gen, o⟩) n c z) v) : Runs P G base w0 j m w (convert src src v) (.slice (some ⟨.mem b gen, o⟩) n c z, m) := by
  obtain ⟨a', cap', rfl, h1, h2, ha⟩ := hx
  have hblk := ha.2.2 ⟨cs, true, hb⟩
  obtain ⟨hok, cc, ty, fr, hh, hsz, hrow, hw⟩ := hm.cells b cs gen true hb
  obtain ⟨hbase, hfree⟩ := hw rfl
  have hblk : a'.block = j.blk b := by
    rcases hblk with h | ⟨h, _⟩
    · omega
    · rw [h]
  have hrun : (convert src src (.slice (some a') n cap')).run P w = .ok (.slice (some a') n cap') (w.freeze ⟨j.blk b, cc.size, none⟩ 1) := by
    have hsh : w.shape? (j.blk b) = some (ty, cc.size) := by simp only [World.shape?, hh]
    simp [convert, run_underlying hs, run_underlying he, markStringish, hblk, hsh]
  have hheap : ∀ g, g ≠ j.blk b → (w.freeze ⟨j.blk b, cc.size, none⟩ 1).heap[g]? = w.heap[g]? := by
    intro g hg
    unfold World.freeze
    rw [if_neg (by omega)]
    simp only [Array.getElem?_modify]
    rw [if_neg (Ne.symm hg)]
  obtain ⟨fr', hh', hfree'⟩ : ∃ fr', (w.freeze ⟨j.blk b, cc.size, none⟩ 1).heap[j.blk b]? = some (.cells cc ty fr') ∧ Free fr' cc.size := by
    obtain ⟨lo, hi⟩ := fr
    refine ⟨if lo == hi then (cc.size, cc.size + 1) else (min lo cc.size, max hi (cc.size + 1)), ?_, ?_⟩
    · unfold World.freeze
      rw [if_neg (by omega)]
      simp only [Array.getElem?_modify, if_true, hh, Option.map_some]
    · rcases hfree with h | h
      · simp only at h
        subst h
        simp [Free]
      · simp only at h
        split
        · simp [Free]
        · right
          simp only
          omega
  have hsize : w.heap.size ≤ (w.freeze ⟨j.blk b, cc.size, none⟩ 1).heap.size := by
    unfold World.freeze
    split
    · exact Nat.le_refl _
    · simp
  refine ⟨j, _, _, hrun, Ext.refl j m, ⟨Lib.below_freeze hm.below hbase 1, Nat.le_trans hm.big hsize, fun g' cs' hg' => ?_, fun k cs' gen' rw' hk => ?_, fun k es ck hk => ?_, hm.inj, fun k s p hk => ?_, fun k cs' gen' rw' ck tyk frk hk hk2 hty => ?_, fun R z hR => ?_⟩, a', cap', rfl, h1, h2, ha⟩
  · obtain ⟨hlt', ho, cg, tyg, frg, hcg, hrg⟩ := hm.globs g' cs' hg'
    exact ⟨hlt', ho, cg, tyg, frg, (hheap _ (by omega)).trans hcg, hrg⟩
  · by_cases hkb : k = b
    · subst hkb
      rw [hb] at hk
      cases hk
      exact ⟨hok, cc, ty, fr', hh', hsz, hrow, fun _ => ⟨hbase, hfree'⟩⟩
    · obtain ⟨ho, c1, ty1, fr1, h3, h4, h5, h6⟩ := hm.cells k cs' gen' rw' hk
      exact ⟨ho, c1, ty1, fr1, (hheap _ (fun e => hm.inj b k (Ne.symm hkb) (.inl ⟨cs, gen, hb⟩) (.inl ⟨cs', gen', rw', hk⟩) e.symm)).trans h3, h4, h5, h6⟩
  · obtain ⟨h3, es', h4, h5⟩ := hm.maps k es ck hk
    have hkb : k ≠ b := fun e => by subst e; rw [hb] at hk; cases hk
    exact ⟨h3, es', (hheap _ (fun e => hm.inj b k (Ne.symm hkb) (.inl ⟨cs, gen, hb⟩) (.inr ⟨_, rfl, hk⟩) e.symm)).trans h4, h5⟩
  · obtain ⟨q1, q2⟩ := hm.other k s p hk
    have hkb : k ≠ b := fun e => by subst e; rw [hb] at hk; cases hk
    exact ⟨q1, (hheap _ (fun e => hm.inj b k (Ne.symm hkb) (.inl ⟨cs, gen, hb⟩) (.inr ⟨_, rfl, hk⟩) e.symm)).trans q2⟩
  · by_cases hkb : k = b
    · subst hkb
      rw [hb] at hk
      cases hk
      rw [hh'] at hk2
      cases hk2
      exact hm.typed k cs gen true cc ty fr hb hh hty
    · rw [hheap _ (fun e => hm.inj b k (Ne.symm hkb) (.inl ⟨cs, gen, hb⟩) (.inl ⟨cs', gen', rw', hk⟩) e.symm)] at hk2
      exact hm.typed k cs' gen' rw' ck tyk frk hk hk2 hty
  · obtain ⟨r1, ⟨cR, tR, fR, r2, r3⟩, r4⟩ := hm.garb R z hR
    exact ⟨r1, ⟨cR, tR, fR, (hheap R fun e => r4 b (.inl ⟨cs, gen, true, hb⟩) e.symm).trans r2, r3⟩, r4⟩

theorem run_mkMapN (hm : MemRel G base w0 j m w) {t kt et : TypeId} (ht : P.underlying t = some (.map kt et)) {k : IntKind} {n : Int} {v : Value} (hx : VRel j m (.int k n) v) : Runs P G base w0 j m w (Instr.makeMap t (some v)) (.map (some m.bl.length), m.push (.map [] 0)) := by
  cases hx
  obtain ⟨j', v, w', h1, h2⟩ := run_mkMap (P := P) hm t
  refine ⟨j', v, w', ?_, h2⟩
  rw [← h1]
  simp [Instr.makeMap, run_underlying ht, asInt, asIntOf]

/-! ### Texts rune by rune -/
theorem run_range (hm : MemRel G base w0 j m w) {t : TypeId} (ht : P.underlying t = some .string) {s : List UInt8} {v : Value} (hx : VRel j m (.str s) v) : Runs P G base w0 j m w (Instr.range t v) (.iter m.bl.length, m.push (.striter s 0)) := by
  cases hx
  refine ⟨_, .pointer (some ⟨w.heap.size, 0, none⟩), _, ?_, Ext.push j m _ w.heap.size 0, hm.push (o := .stringIter ⟨s.toArray⟩ 0) rfl, _, rfl, by simp [genAt, Mem.push, Blk.gen], fun _ => by simp [Inj.lay]⟩
  simp [Instr.range, run_underlying ht, World.alloc_eq]

theorem run_next (hm : MemRel G base w0 j m w) (ty : TypeId) {b : Nat} {v : Value} (hx : VRel j m (.iter b) v) {s : List UInt8} {p : Nat} (hb : m.bl[b]? = some (.striter s p)) (low : Nat) :
    Runs P G base w0 j m w (Instr.next v true ty) (if p < s.length then (.tuple [.bool true, .int .i64 p, .int .i32 (Utf8.decode ⟨s.toArray⟩ p).1], ⟨m.bl.set b (.striter s (p + (Utf8.decode ⟨s.toArray⟩ p).2)), low⟩) else (.tuple [.bool false], m)) := by
  obtain ⟨r, rfl, hlt, hr⟩ := hx
  have hlt := genAt_lt hlt
  have e := hr ⟨_, rfl, hb⟩
  subst e
  obtain ⟨hbase, hh⟩ := hm.other b s p hb
  have hg : (getObj (j.blk b)).run P w = .ok (.stringIter ⟨s.toArray⟩ p) w := by simp [getObj, Sem.run, hh]
  have hsz : (⟨s.toArray⟩ : ByteArray).size = s.length := str_size s
  split
  case isFalse hp =>
    refine .same hm (v := .tuple #[.bool false]) ?_ ⟨_, rfl, _, _, rfl, rfl, rfl⟩
    simp [Instr.next, hg, hsz, hp]
  case isTrue hp =>
    have hset : ∀ o : Obj, (setObj (j.blk b) o).run P w = .ok () { w with heap := w.heap.setIfInBounds (j.blk b) o } := by
      intro o
      simp [setObj, Sem.run, hh]
    obtain ⟨hs1, hs2⟩ := MapKept.heap_set (o' := .stringIter ⟨s.toArray⟩ (p + (Utf8.decode ⟨s.toArray⟩ p).2)) hh
    have hext : Ext j m j ⟨m.bl.set b (.striter s (p + (Utf8.decode ⟨s.toArray⟩ p).2)), low⟩ := by
      refine ⟨by simp, fun k hk => ?_, fun k gk hk hgk hl => ?_, fun k hk hl => ?_, fun _ _ h => h⟩
      · rw [genAt_set hlt]
        split
        · rename_i e
          subst e
          simp [genAt, hb, Blk.gen]
        · exact Nat.le_refl _
      · obtain ⟨cs', rw', hl⟩ := hl
        simp only [bl_set hlt] at hl
        split at hl
        · cases hl
        · exact ⟨⟨cs', rw', hl⟩, rfl, rfl, rfl⟩
      · obtain ⟨x, hx, hl⟩ := hl
        simp only [bl_set hlt] at hl
        split at hl
        · rename_i e
          subst e
          exact ⟨⟨_, rfl, hb⟩, rfl⟩
        · exact ⟨⟨x, hx, hl⟩, rfl⟩
    have hne : ∀ k, k ≠ b → (∃ cs gen rw, m.bl[k]? = some (.cells cs gen rw)) ∨ liveMap m k → (w.heap.setIfInBounds (j.blk b) (.stringIter ⟨s.toArray⟩ (p + (Utf8.decode ⟨s.toArray⟩ p).2)))[j.blk k]? = w.heap[j.blk k]? := fun k hk hl =>
      hs2 _ (fun e => hm.inj b k (Ne.symm hk) (.inr ⟨_, rfl, hb⟩) hl e.symm)
    refine ⟨j, .tuple #[.bool true, .int .i64 p, .int .i32 (Utf8.decode ⟨s.toArray⟩ p).1], { w with heap := w.heap.setIfInBounds (j.blk b) (.stringIter ⟨s.toArray⟩ (p + (Utf8.decode ⟨s.toArray⟩ p).2)) }, ?_, hext, ⟨⟨hm.below.os, hm.below.tape, hm.below.output, by simpa using hm.below.size, fun k hk => (hs2 k (by omega)).trans (hm.below.block k hk)⟩, by simpa using hm.big, fun g' cs' hg' => ?_, fun k cs' gen' rw' hk => ?_, fun k e1 c1 hk => ?_, fun k k' hkk h1 h2 => ?_, fun k s' p' hk => ?_, fun k cs' gen' rw' ck tyk frk hk hh hty => ?_, fun R z hR => ?_⟩, ⟨_, rfl, _, _, rfl, rfl, _, _, rfl, rfl, _, _, rfl, rfl, rfl⟩⟩
    · simp [Instr.next, hg, hsz, hp, hset, goInt]
    · obtain ⟨hlt', ho, cg, tyg, frg, hcg, hrg⟩ := hm.globs g' cs' hg'
      exact ⟨hlt', ho, cg, tyg, frg, (hs2 _ (by omega)).trans hcg, hrg.ext hext⟩
    · simp only [bl_set hlt] at hk
      split at hk
      · cases hk
      · rename_i e
        obtain ⟨ho, c, ty, fr, hc, hs, hr, hw⟩ := hm.cells k cs' gen' rw' hk
        exact ⟨ho, c, ty, fr, (hne k (Ne.symm e) (.inl ⟨cs', gen', rw', hk⟩)).trans hc, hs, hr.ext hext, hw⟩
    · simp only [bl_set hlt] at hk
      split at hk
      · cases hk
      · rename_i e
        obtain ⟨hb1, e2, hes, hl, hel⟩ := hm.maps k e1 c1 hk
        refine ⟨hb1, e2, (hne k (Ne.symm e) (.inr ⟨_, rfl, hk⟩)).trans hes, hl, fun i x hi => ?_⟩
        obtain ⟨e', h1, h2, h3, h4⟩ := hel i x hi
        exact ⟨e', h1, VRel.ext hext _ h2, VRel.ext hext _ h3, h4⟩
    · have r1 : (∃ cs gen, m.bl[k]? = some (.cells cs gen true)) ∨ liveMap m k := by
        rcases h1 with ⟨cs', gen', h1⟩ | ⟨x, hx, h1⟩
        · simp only [bl_set hlt] at h1
          split at h1
          · cases h1
          · exact .inl ⟨cs', gen', h1⟩
        · simp only [bl_set hlt] at h1
          split at h1
          · rename_i e; subst e; exact .inr ⟨_, rfl, hb⟩
          · exact .inr ⟨x, hx, h1⟩
      have r2 : (∃ cs gen rw, m.bl[k']? = some (.cells cs gen rw)) ∨ liveMap m k' := by
        rcases h2 with ⟨cs', gen', rw', h2⟩ | ⟨x, hx, h2⟩
        · simp only [bl_set hlt] at h2
          split at h2
          · cases h2
          · exact .inl ⟨cs', gen', rw', h2⟩
        · simp only [bl_set hlt] at h2
          split at h2
          · rename_i e; subst e; exact .inr ⟨_, rfl, hb⟩
          · exact .inr ⟨x, hx, h2⟩
      exact hm.inj k k' hkk r1 r2
    · simp only [bl_set hlt] at hk
      split at hk
      · rename_i e
        subst e
        cases hk
        exact ⟨hbase, hs1⟩
      · rename_i e
        obtain ⟨q1, q2⟩ := hm.other k s' p' hk
        exact ⟨q1, (hne k (Ne.symm e) (.inr ⟨_, rfl, hk⟩)).trans q2⟩
    · simp only [bl_set hlt] at hk
      split at hk
      · cases hk
      · rename_i e
        rw [hne k (Ne.symm e) (.inl ⟨cs', gen', rw', hk⟩)] at hh
        exact hm.typed k cs' gen' rw' ck tyk frk hk hh hty
    · obtain ⟨r1, ⟨cR, tR, fR, r2, r3⟩, r4⟩ := hm.garb R z hR
      refine ⟨r1, ⟨cR, tR, fR, (hs2 R fun e => r4 b (.inr ⟨_, rfl, hb⟩) e.symm).trans r2, r3⟩, fun k hk => r4 k ?_⟩
      rcases hk with ⟨cs', gen', rw', hk⟩ | ⟨x, hx, hk⟩
      · simp only [bl_set hlt] at hk
        split at hk
        · cases hk
        · exact .inl ⟨cs', gen', rw', hk⟩
      · simp only [bl_set hlt] at hk
        split at hk
        · rename_i e; subst e; exact .inr ⟨_, rfl, hb⟩
        · exact .inr ⟨x, hx, hk⟩

/-! ### Numbers with a point -/
theorem binFlt_run {op : BinOp} {k : FloatKind} {x y : Nat} {r : EV} (h : binFlt op k x y = some r) (t : TypeId) (w : World) : ∃ v, (binOp op t (.float k x) (.float k y)).run P w = .ok v w ∧ ∀ (j : Inj) (m : Mem), VRel j m r v := by
  cases op <;> simp only [binFlt] at h <;> first
    | (cases h; done)
    | (cases h; exact ⟨_, by simp [binOp, Op.floatCmp], fun _ _ => rfl⟩)
    | (obtain ⟨n, hn, rfl⟩ := Option.map_eq_some_iff.1 h
       exact ⟨.float k n, by simp [binOp, Op.floatArith, hn], fun _ _ => rfl⟩)

theorem run_toFlt (hm : MemRel G base w0 j m w) {src dst : TypeId} {k : FloatKind} {k0 : IntKind} {n : Int} (hs : ∃ q, P.underlying src = some (.int q)) (hd : P.underlying dst = some (.float k)) {v : Value} (hx : VRel j m (.int k0 n) v) :
    Runs P G base w0 j m w (convert src dst v) (.flt k (k.nearest n), m) := by
  cases hx
  obtain ⟨q, hs⟩ := hs
  exact .same hm (v := .float k (k.nearest n)) (by simp [convert, run_underlying hs, run_underlying hd, Conv.intToFloat]) rfl
theorem run_fltInt (hm : MemRel G base w0 j m w) {src dst : TypeId} {k : IntKind} {k0 : FloatKind} {b : Nat} {n : Int} (hs : ∃ q, P.underlying src = some (.float q)) (hd : P.underlying dst = some (.int k)) {v : Value} (hx : VRel j m (.flt k0 b) v)
    (hn : (k0.decode b).toInt .zero = some n) (hr : k.min ≤ n ∧ n ≤ k.max) : Runs P G base w0 j m w (convert src dst v) (.int k n, m) := by
  cases hx
  obtain ⟨q, hs⟩ := hs
  exact .same hm (v := .int k n) (by simp [convert, run_underlying hs, run_underlying hd, Conv.floatToInt, hn, hr]) rfl
end
end Go.Ev
