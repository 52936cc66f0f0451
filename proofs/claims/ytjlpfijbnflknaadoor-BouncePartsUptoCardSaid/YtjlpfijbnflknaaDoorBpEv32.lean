/- The engine, part 32: maps from whole numbers to whole numbers. There are no conditions. -/
import Derived.Test.YtjlpfijbnflknaaDoorBpEv28
set_option linter.unusedSimpArgs false
set_option linter.unusedSectionVars false
set_option linter.unusedVariables false
namespace Go.Ev

/-- Entries of whole numbers. -/
def entsI (k v : IntKind) (l : List (Int × Int × Nat)) : List Ent := l.map fun e => ⟨.int k e.1, .int v e.2.1, e.2.2⟩
/-- What such a map holds. -/
def valI : List (Int × Int × Nat) → Int → Option Int
  | [], _ => none
  | e :: l, k => if e.1 = k then some e.2.1 else valI l k
theorem findI {k v : IntKind} (key : Int) : ∀ (l : List (Int × Int × Nat)) (i : Nat), ∃ f, findE [12] (.int k key) (entsI k v l) i = some f ∧ f.map (·.2) = (valI l key).map (.int v ·) ∧
    (∀ j x, f = some (j, x) → i ≤ j ∧ j - i < l.length ∧ ∀ y, ∃ l', setEnt (entsI k v l) (j - i) (.int k key) (.int v y) = entsI k v l' ∧ ∀ k', valI l' k' = if k' = key then some y else valI l k')
  | [], i => ⟨none, rfl, rfl, fun j x h => by cases h⟩
  | e :: l, i => by
    simp only [entsI, List.map_cons, findE, keyEqE, show (10 : Nat) < 12 by decide, if_true, show 12 - 10 = 2 from rfl, eqCell]
    by_cases h : key = e.1
    · subst h
      simp only [beq_self_eq_true]
      refine ⟨_, rfl, by simp [valI], fun j x hj => ?_⟩
      simp only [Option.some.injEq, Prod.mk.injEq] at hj
      obtain ⟨rfl, rfl⟩ := hj
      refine ⟨Nat.le_refl _, by simp, fun y => ⟨(e.1, y, e.2.2) :: l, ?_, fun k' => ?_⟩⟩
      · rw [Nat.sub_self]
        rfl
      · simp only [valI]
        by_cases hk : e.1 = k'
        · rw [if_pos hk, if_pos hk.symm]
        · rw [if_neg hk, if_neg (fun h => hk h.symm), if_neg hk]
    · have hb : (key == e.1) = false := by simpa using h
      simp only [hb]
      obtain ⟨f, h1, h2, h3⟩ := findI key l (i + 1)
      refine ⟨f, h1, by rw [h2, valI, if_neg (fun q => h q.symm)], fun j x hj => ?_⟩
      obtain ⟨g1, g2, g3⟩ := h3 j x hj
      refine ⟨by omega, by simp; omega, fun y => ?_⟩
      obtain ⟨l', e1, e2⟩ := g3 y
      refine ⟨e :: l', ?_, fun k' => ?_⟩
      · rw [show j - i = (j - (i + 1)) + 1 by omega]
        simp only [setEnt]
        rw [show (List.map (fun e : Int × Int × Nat => (⟨.int k e.1, .int v e.2.1, e.2.2⟩ : Ent)) l) = entsI k v l from rfl, e1]
        rfl
      · simp only [valI, e2]
        by_cases hk : e.1 = k'
        · rw [if_pos hk, if_pos hk, if_neg (fun q => h (by rw [hk, q]))]
        · rw [if_neg hk, if_neg hk]
/-- A look into such a map, and what it is with a number laid. -/
theorem lookI (k v : IntKind) (l : List (Int × Int × Nat)) (key : Int) : ∃ f, lookE [12] (.int k key) (entsI k v l) = some f ∧ lookR (.int v 0) false f = .int v ((valI l key).getD 0) ∧
    ∀ (y : Int) (ck : Nat), ∃ l' ck', entPut (.int k key) (.int v y) (entsI k v l) ck f = .map (entsI k v l') ck' ∧ ∀ k', valI l' k' = if k' = key then some y else valI l k' := by
  obtain ⟨f, h1, h2, h3⟩ := findI (k := k) (v := v) key l 0
  refine ⟨f, ?_, ?_, fun y ck => ?_⟩
  · unfold lookE
    have : keyEqE [12] (.int k key) (.int k key) = some true := by simp [keyEqE, eqCell]
    rw [this]
    exact h1
  · cases f with
    | none =>
      simp only [Option.map_none] at h2
      cases hv : valI l key with
      | none => rfl
      | some z => rw [hv] at h2; cases h2
    | some p =>
      obtain ⟨j, x⟩ := p
      simp only [Option.map_some] at h2
      cases hv : valI l key with
      | none => rw [hv] at h2; cases h2
      | some z =>
        rw [hv] at h2
        simp only [Option.map_some, Option.some.injEq] at h2
        simp [lookR, h2]
  · cases f with
    | none =>
      have hn : valI l key = none := by
        cases hv : valI l key with
        | none => rfl
        | some z => rw [hv] at h2; cases h2
      refine ⟨l ++ [(key, y, ck)], ck + 1, by simp [entPut, entsI], fun k' => ?_⟩
      have app : ∀ l : List (Int × Int × Nat), valI l key = none → valI (l ++ [(key, y, ck)]) k' = if k' = key then some y else valI l k' := by
        intro l
        induction l with
        | nil => intro _; simp [valI, eq_comm]
        | cons e l ih =>
          intro hn
          simp only [valI] at hn
          by_cases hk : e.1 = key
          · rw [if_pos hk] at hn; cases hn
          · rw [if_neg hk] at hn
            simp only [List.cons_append, valI, ih hn]
            by_cases hk2 : e.1 = k'
            · rw [if_pos hk2, if_pos hk2, if_neg (fun q => hk (by rw [hk2, q]))]
            · rw [if_neg hk2, if_neg hk2]
      exact app l hn
    | some p =>
      obtain ⟨j, x⟩ := p
      obtain ⟨_, _, g3⟩ := h3 j x rfl
      obtain ⟨l', e1, e2⟩ := g3 y
      rw [Nat.sub_zero] at e1
      exact ⟨l', ck, by simp only [entPut, e1], e2⟩

/-- A map of whole numbers in memory. -/
def MapI (k v : IntKind) (m : Mem) (b : Nat) (c : Int → Int) : Prop := ∃ l ck, m.bl[b]? = some (.map (entsI k v l) ck) ∧ ∀ key, c key = (valI l key).getD 0
theorem MapI.lt {k v : IntKind} {m : Mem} {b : Nat} {c : Int → Int} (h : MapI k v m b c) : b < m.bl.length := by
  obtain ⟨l, ck, h, _⟩ := h
  exact (List.getElem?_eq_some_iff.1 h).1
theorem MapI.grown {k v : IntKind} {m M : Mem} {b : Nat} {c : Int → Int} (h : MapI k v m b c) (hg : Grown m M) : MapI k v M b c := by
  have hl := h.lt
  obtain ⟨l, ck, h1, h2⟩ := h
  exact ⟨l, ck, by rw [hg.at hl, h1], h2⟩
theorem MapI.new {k v : IntKind} {m M : Mem} (e : M = m.push (.map [] 0)) : MapI k v M m.bl.length (fun _ => 0) := ⟨[], 0, by rw [e]; simp [Mem.push, entsI], fun _ => rfl⟩
theorem MapI.look {k v : IntKind} {m : Mem} {b : Nat} {c : Int → Int} (h : MapI k v m b c) (key : Int) : lkE m [12] (.int v 0) false (.map (some b)) (.int k key) = some (.int v (c key), m) := by
  obtain ⟨l, ck, h1, h2⟩ := h
  obtain ⟨f, f1, f2, _⟩ := lookI k v l key
  simp only [lkE, h1, f1, Option.map_some, f2, h2]
theorem MapI.set {k v : IntKind} {m : Mem} {b : Nat} {c : Int → Int} (h : MapI k v m b c) (key y : Int) : ∃ m', msE m [12] (.map (some b)) (.int k key) (.int v y) = some (undefE, m') ∧ MapI k v m' b (fun x => if x = key then y else c x) ∧ But1 b m m' ∧ m'.low = min m.low b := by
  have hl := h.lt
  obtain ⟨l, ck, h1, h2⟩ := h
  obtain ⟨f, f1, _, f3⟩ := lookI k v l key
  obtain ⟨l', ck', e1, e2⟩ := f3 y ck
  refine ⟨⟨m.bl.set b (.map (entsI k v l') ck'), min m.low b⟩, ?_, ⟨l', ck', by simp [hl], fun x => ?_⟩, ⟨by simp, fun j hj => ?_⟩, rfl⟩
  · simp only [msE, h1, single, if_true, f1, Option.map_some, e1]
  · rw [e2]
    by_cases hx : x = key
    · simp [hx]
    · simp [hx, h2]
  · simp only
    rw [List.getElem?_set_ne (by omega)]
end Go.Ev
