/- The engine, part 24: a listed variable of plain cells is one of the evaluator's global rows. There are no conditions. -/
import Derived.Test.YthmmoahdobpfoaaGreatDoorXEv20
set_option linter.unusedSimpArgs false
set_option linter.unusedSectionVars false
set_option linter.unusedVariables false
namespace Go.Ev
open Go.RowKit (Below)

mutual
/-- The cells of plain data. -/
def flatV {H : Type} : DataW H → List EV
  | .lit (.int k z) => [.int k z]
  | .lit (.bool b) => [.bool b]
  | .lit (.string s) => [.str s]
  | .agg ps => flatVs ps
  | _ => []
def flatVs {H : Type} : List (DataW H) → List EV
  | [] => []
  | p :: ps => flatV p ++ flatVs ps
end
mutual
/-- A shape without slices. -/
def Sh.flat : Sh → Bool
  | .slice _ => false
  | .flt _ => false
  | .struct fs => Sh.flats fs
  | .arr _ e => e.flat
  | _ => true
def Sh.flats : List Sh → Bool
  | [] => true
  | f :: fs => f.flat && Sh.flats fs
end

theorem array_step {α : Type} (l : List α) (i n : Nat) : l.drop (i * n) = (l.drop (i * n)).take n ++ l.drop ((i + 1) * n) := by
  rw [Nat.succ_mul, ← List.drop_drop, List.take_append_drop]

section
variable {P : Program} {w : World} {j : Inj} {m : Mem}
mutual
theorem flat_cells {H : Type} {enc : TypeId × Value → H} {b0 : Nat} {held : Bool} {sp : Nat → Bool} : ∀ (sh : Sh) {t : TypeId} {fuel : Nat} {cs : List Value} {x : DataW H × List MemPlace}, shOk P sh t = true → sh.flat = true → DataW.trod enc P w b0 sp held fuel t cs = some x → VsRel j m (flatV x.1) cs
  | .bool, t, fuel, cs, x, hk, hf, h => by
    simp only [shOk] at hk
    split at hk
    case h_2 => cases hk
    rename_i ht
    obtain ⟨b, rfl, rfl⟩ := DataW.trod_bool ht h
    exact ⟨_, [], rfl, rfl, rfl⟩
  | .int k, t, fuel, cs, x, hk, hf, h => by
    simp only [shOk] at hk
    split at hk
    case h_2 => cases hk
    rename_i k' ht
    obtain ⟨n, rfl, rfl, _⟩ := DataW.trod_int ht h
    exact ⟨_, [], rfl, rfl, rfl⟩
  | .str, t, fuel, cs, x, hk, hf, h => by
    simp only [shOk] at hk
    split at hk
    case h_2 => cases hk
    rename_i ht
    obtain ⟨s, rfl, rfl, _⟩ := DataW.trod_string ht h
    exact ⟨_, [], rfl, rfl, rfl⟩
  | .slice e, t, fuel, cs, x, hk, hf, h => by simp [Sh.flat] at hf
  | .flt e, t, fuel, cs, x, hk, hf, h => by simp [Sh.flat] at hf
  | .struct fs, t, fuel, cs, x, hk, hf, h => by
    simp only [shOk] at hk
    split at hk
    case h_2 => cases hk
    rename_i gs ht
    simp only [Bool.and_eq_true, beq_iff_eq] at hk
    obtain ⟨hgs, hsz⟩ := hk
    obtain ⟨xs, n, rfl, rfl, hcl, hxl, hx⟩ := DataW.trod_struct ht h
    have := flats_cells fs (enc := enc) (b0 := b0) (held := held) (sp := sp) (gs := gs.toList) (n := 0) (fuel := n) (cs := cs) (xs := xs) hgs (by simpa [Sh.flat] using hf) (fun i f hi => hx i f (by simpa using hi)) (by simpa using hxl) (by rw [hcl, hsz]; omega)
    rw [List.drop_zero] at this
    simpa only [flatV] using this
  | .arr k e, t, fuel, cs, x, hk, hf, h => by
    simp only [shOk] at hk
    split at hk
    case h_2 => cases hk
    rename_i k' u ht
    simp only [Bool.and_eq_true, beq_iff_eq] at hk
    obtain ⟨⟨⟨rfl, hu⟩, hsu⟩, hst⟩ := hk
    obtain ⟨xs, n, rfl, rfl, hcl, hxl, hx⟩ := DataW.trod_array ht h
    rw [hsu] at hx
    have key : ∀ c i, i + c = k' → VsRel j m (flatVs ((xs.drop i).map (·.1))) (cs.drop (i * e.size)) := by
      intro c
      induction c with
      | zero =>
        intro i hi
        rw [List.drop_eq_nil_of_le (by omega), List.drop_eq_nil_of_le (by rw [hcl, hst, show i = k' by omega]; exact Nat.le_refl _)]
        rfl
      | succ c ih =>
        intro i hi
        have hg := hx i (by omega)
        rw [List.getElem?_eq_getElem (by omega)] at hg
        have h1 := flat_cells e hu (by simpa [Sh.flat] using hf) hg
        have h2 := ih (i + 1) (by omega)
        rw [List.drop_eq_getElem_cons (by omega : i < xs.length), array_step cs i e.size]
        simp only [List.map_cons, flatVs]
        exact h1.append h2
    have := key k' 0 (by omega)
    simpa only [flatV, List.drop_zero, Nat.zero_mul] using this
theorem flats_cells {H : Type} {enc : TypeId × Value → H} {b0 : Nat} {held : Bool} {sp : Nat → Bool} : ∀ (fs : List Sh) {gs : List Field} {n fuel : Nat} {cs : List Value} {xs : List (DataW H × List MemPlace)}, shsOk P fs gs n = true → Sh.flats fs = true →
    (∀ (i : Nat) (f : Field), gs[i]? = some f → DataW.trod enc P w b0 sp held fuel f.type ((cs.drop f.offset).take (P.cellsOf f.type)) = xs[i]?) → xs.length = gs.length → cs.length = n + Sh.sizes fs → VsRel j m (flatVs (xs.map (·.1))) (cs.drop n)
  | [], [], n, fuel, cs, xs, hk, hf, hx, hl, hc => by
    rw [List.length_nil, List.length_eq_zero_iff] at hl
    subst hl
    simp only [List.map_nil, flatVs, VsRel, List.drop_eq_nil_iff, Sh.sizes] at hc ⊢
    omega
  | [], g :: gs, n, fuel, cs, xs, hk, hf, hx, hl, hc => by simp [shsOk] at hk
  | f :: fs, [], n, fuel, cs, xs, hk, hf, hx, hl, hc => by simp [shsOk] at hk
  | f :: fs, g :: gs, n, fuel, cs, [], hk, hf, hx, hl, hc => by simp at hl
  | f :: fs, g :: gs, n, fuel, cs, x :: xs, hk, hf, hx, hl, hc => by
    simp only [shsOk, Bool.and_eq_true, beq_iff_eq] at hk
    obtain ⟨⟨⟨h1, h2⟩, h3⟩, h4⟩ := hk
    simp only [Sh.flats, Bool.and_eq_true] at hf
    have hx0 := hx 0 g rfl
    rw [h2, h3] at hx0
    simp only [List.getElem?_cons_zero] at hx0
    have hv := flat_cells f h1 hf.1 hx0
    simp only [Sh.sizes] at hc
    have hvs := flats_cells fs (enc := enc) (b0 := b0) (held := held) (sp := sp) (n := n + f.size) (fuel := fuel) (xs := xs) h4 hf.2 (fun i g' hi => by simpa using hx (i + 1) g' (by simpa using hi)) (by simpa using hl) (cs := cs) (by omega)
    have : cs.drop n = (cs.drop n).take f.size ++ cs.drop (n + f.size) := by
      rw [← List.drop_drop, List.take_append_drop]
    rw [this]
    simp only [List.map_cons, flatVs]
    exact hv.append hvs
end

/-- A variable that stands first on a row's list. -/
theorem glob_of_laid {es : List EV} {name : String} {d : DataW Unit} {rest : List (String × DataW Unit)} {g : Nat} {t : TypeId} {sh : Sh} (hg : P.globalNamed name = some g) (hty : (P.globals[g]?).map (·.type) = some t) (hk : shOk P sh t = true) (hf : sh.flat = true)
    (hd : flatV d = es) (h : laidMet P ((name, d) :: rest) w) : g < w.heap.size ∧ ∃ c ty fr, w.heap[g]? = some (.cells c ty fr) ∧ RowIn j m es c 0 := by
  obtain ⟨ps, ⟨g', t', cs, fuel, p, q, hg', ht', hvar, htr, _, _⟩, _⟩ := h
  obtain rfl := Option.some.inj (hg.symm.trans hg')
  obtain rfl := Option.some.inj (hty.symm.trans ht')
  have hv := flat_cells (j := j) (m := m) sh hk hf htr
  simp only [hd] at hv
  simp only [World.var?, hg, Option.bind_some] at hvar
  split at hvar
  case h_2 => cases hvar
  rename_i c ty fr hh
  cases hvar
  refine ⟨(Array.getElem?_eq_some_iff.1 hh).1, cs, ty, fr, hh, ?_, fun i x hi => ?_⟩
  · have := VsRel.length hv
    simp at this
    omega
  · obtain ⟨v, h1, h2⟩ := hv.get i x hi
    exact ⟨v, by simpa using h1, h2⟩
end
end Go.Ev
