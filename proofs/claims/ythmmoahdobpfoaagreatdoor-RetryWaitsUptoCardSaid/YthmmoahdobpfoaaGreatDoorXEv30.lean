/- The engine, part 30: what arguments of a law are. There are no conditions. -/
import Derived.Test.YthmmoahdobpfoaaGreatDoorXEv29
import Derived.Test.YthmmoahdobpfoaaGreatDoorXEv19
set_option linter.unusedSimpArgs false
set_option linter.unusedSectionVars false
set_option linter.unusedVariables false
namespace Go.Ev
variable {G : Globs}

theorem sits_slice {N : Nat} {m : Mem} {e : Sh} {xs : List EV} (h : Sits N m (.slice e) xs) : ∃ v rows, xs = [v] ∧ RowsAt G m e.size v rows ∧ rows.length ≤ N ∧ ∀ r ∈ rows, Sits N m e r := by
  unfold Sits at h
  rcases h with rfl | ⟨b, len, cs, rfl, h1, h2, h3, h4⟩
  · exact ⟨_, [], rfl, ⟨(by simp), .inl ⟨rfl, rfl⟩⟩, by simp, by simp⟩
  · exact ⟨_, cs, rfl, RowsAt.of_block h1.symm h3.1 h3.2 fun c hc => (h4 c hc).2, by omega, fun c hc => (h4 c hc).1⟩
theorem sits_str {N : Nat} {m : Mem} {xs : List EV} (h : Sits N m .str xs) : ∃ s, xs = [.str s] ∧ s.length ≤ N := by unfold Sits at h; exact h
theorem sits_bool {N : Nat} {m : Mem} {xs : List EV} (h : Sits N m .bool xs) : ∃ b, xs = [.bool b] := by unfold Sits at h; exact h
theorem sits_int {N : Nat} {m : Mem} {k : IntKind} {xs : List EV} (h : Sits N m (.int k) xs) : ∃ n, xs = [.int k n] ∧ k.min ≤ n ∧ n ≤ k.max := by
  unfold Sits at h
  obtain ⟨n, e, hw⟩ := h
  refine ⟨n, e, ?_⟩
  simp only [Lit.wf, Bool.and_eq_true, decide_eq_true_eq] at hw
  exact hw
theorem sits_flt {N : Nat} {m : Mem} {k : FloatKind} {xs : List EV} (h : Sits N m (.flt k) xs) : ∃ n, xs = [.flt k n] ∧ (Lit.float k n).wf = true := by unfold Sits at h; exact h
theorem sits_cons {N : Nat} {m : Mem} {f : Sh} {fs : List Sh} {xs : List EV} (h : SitsAll N m (f :: fs) xs) : ∃ a b, xs = a ++ b ∧ a.length = f.size ∧ Sits N m f a ∧ SitsAll N m fs b := by unfold SitsAll at h; exact h
theorem sits_nil {N : Nat} {m : Mem} {xs : List EV} (h : SitsAll N m [] xs) : xs = [] := by unfold SitsAll at h; exact h
theorem sits_struct {N : Nat} {m : Mem} {fs : List Sh} {xs : List EV} (h : Sits N m (.struct fs) xs) : SitsAll N m fs xs := by unfold Sits at h; exact h
/-- Rows that are all of a kind are a list of that kind. -/
theorem rows_of {α : Type} {f : α → List EV} {Q : α → Prop} : ∀ {rows : List (List EV)}, (∀ r ∈ rows, ∃ p, r = f p ∧ Q p) → ∃ l : List α, rows = l.map f ∧ ∀ p ∈ l, Q p
  | [], _ => ⟨[], rfl, by simp⟩
  | r :: rows, h => by
    obtain ⟨p, e, hq⟩ := h r (List.mem_cons_self ..)
    obtain ⟨l, e2, h2⟩ := rows_of (rows := rows) fun r hr => h r (List.mem_cons_of_mem _ hr)
    refine ⟨p :: l, by rw [e, e2]; rfl, fun q hq' => ?_⟩
    rcases List.mem_cons.1 hq' with rfl | hq'
    · exact hq
    · exact h2 q hq'
end Go.Ev
