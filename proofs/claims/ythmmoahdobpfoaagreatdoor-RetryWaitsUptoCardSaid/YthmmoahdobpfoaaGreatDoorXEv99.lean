/- The engine, part 99: walking regions that lay blocks of known content. There are no conditions. -/
import Derived.Test.YthmmoahdobpfoaaGreatDoorXEv22
set_option linter.unusedSectionVars false
set_option linter.unusedVariables false
set_option linter.unusedSimpArgs false
namespace Go.Ev

def consB : Option Blk → Option (List Blk) → Option (List Blk)
  | some b, some bs => some (b :: bs)
  | _, _ => none
/-- lates and subL, operation by operation. -/
def latesR : Nat → List Nat → List EOper → Option (List Blk)
  | _, [], _ => some []
  | _, _ :: _, [] => none
  | k, j :: js, o :: os => if j = k then consB (lateB o.op) (latesR (k + 1) js os) else latesR (k + 1) (j :: js) os
def subR (rb : Nat) : Nat → Nat → List Nat → List EOper → List EOper
  | _, _, [], os => os
  | _, _, _ :: _, [] => []
  | i, k, j :: js, o :: os => if j = k then ⟨o.dst, .mov (.con (lateV o.op (rb + i))), o.guard⟩ :: subR rb (i + 1) (k + 1) js os else o :: subR rb i (k + 1) (j :: js) os

theorem latesR_nil {k : Nat} {os : List EOper} : latesR k [] os = some [] := by cases os <;> rfl
theorem subR_nil {rb i k : Nat} {os : List EOper} : subR rb i k [] os = os := by cases os <;> rfl
theorem consB_some {b : Option Blk} {l : Option (List Blk)} {r : List Blk} (h : consB b l = some r) : ∃ x y, b = some x ∧ l = some y ∧ r = x :: y := by
  cases b <;> cases l <;> simp only [consB] at h <;> first | (cases h; done) | skip
  cases h
  exact ⟨_, _, rfl, rfl, rfl⟩

theorem lates_of : ∀ (os : List EOper) (k : Nat) (js : List Nat) (bs : List Blk), latesR k js os = some bs → ∀ pre : List EOper, pre.length = k → lates (pre ++ os) js = some bs
  | os, k, [], bs, h, pre, hp => by
    cases os <;> simp only [latesR] at h <;> cases h <;> rfl
  | [], k, j :: js, bs, h, pre, hp => by simp only [latesR] at h; cases h
  | o :: os, k, j :: js, bs, h, pre, hp => by
    simp only [latesR] at h
    have hpo : pre ++ o :: os = (pre ++ [o]) ++ os := by simp
    split at h
    · rename_i e
      subst e
      obtain ⟨x, y, h1, h2, rfl⟩ := consB_some h
      have h3 := lates_of os (j + 1) js y h2 (pre ++ [o]) (by simp [hp])
      have h4 : (pre ++ o :: os)[j]? = some o := by rw [List.getElem?_append_right (by omega), hp]; simp
      simp only [lates, h4, Option.bind_some, h1]
      rw [hpo, h3]
    · rw [hpo]
      exact lates_of os (k + 1) (j :: js) bs h (pre ++ [o]) (by simp [hp])

theorem subR_map {rb : Nat} : ∀ (os : List EOper) (i k : Nat) (js : List Nat) (bs : List Blk), latesR k js os = some bs → (∀ j ∈ js, k ≤ j) ∧ subR rb i k js os = os.mapIdx fun c o => match js.idxOf? (c + k) with
    | some x => (⟨o.dst, .mov (.con (lateV o.op (rb + (i + x)))), o.guard⟩ : EOper)
    | none => o
  | os, i, k, [], bs, h => by
    refine ⟨by simp, ?_⟩
    have : subR rb i k [] os = os := by cases os <;> rfl
    rw [this]
    apply List.ext_getElem?
    intro c
    rw [List.getElem?_mapIdx]
    cases os[c]? <;> rfl
  | [], i, k, j :: js, bs, h => by simp only [latesR] at h; cases h
  | o :: os, i, k, j :: js, bs, h => by
    simp only [latesR] at h
    split at h
    · rename_i e
      subst e
      obtain ⟨x, y, h1, h2, rfl⟩ := consB_some h
      obtain ⟨h3, h4⟩ := subR_map (rb := rb) os (i + 1) (j + 1) js y h2
      refine ⟨fun c hc => ?_, ?_⟩
      · rcases List.mem_cons.1 hc with rfl | hc
        · exact Nat.le_refl _
        · have := h3 c hc; omega
      · simp only [subR, if_true, h4, List.mapIdx_cons]
        congr 1
        · simp [List.idxOf?_cons]
        · congr 1
          funext c o'
          have hne : (j == c + 1 + j) = false := by rw [beq_eq_false_iff_ne]; omega
          rw [List.idxOf?_cons, hne, show c + 1 + j = c + (j + 1) by omega]
          simp only [Bool.false_eq_true, if_false]
          cases js.idxOf? (c + (j + 1)) with
          | none => rfl
          | some x => simp only [Option.map_some, show i + 1 + x = i + (x + 1) by omega]
    · rename_i e
      obtain ⟨h3, h4⟩ := subR_map (rb := rb) os i (k + 1) (j :: js) bs h
      refine ⟨fun c hc => by have := h3 c hc; omega, ?_⟩
      simp only [subR, if_neg e, h4, List.mapIdx_cons]
      congr 1
      · have : (j :: js).idxOf? (0 + k) = none := by
          rw [List.idxOf?_eq_none_iff]
          intro hk
          have := h3 _ hk
          omega
        rw [this]
      · congr 1
        funext c o'
        rw [show c + 1 + k = c + (k + 1) by omega]
theorem subR_eq {rb : Nat} {os : List EOper} {js : List Nat} {bs : List Blk} (h : latesR 0 js os = some bs) : subR rb 0 0 js os = subL rb js os := by
  rw [(subR_map os 0 0 js bs h).2]
  unfold subL
  congr 1
  funext c o
  simp only [Nat.add_zero, Nat.zero_add]
  cases js.idxOf? c <;> rfl

/-! ### Memory -/
theorem commit_dead : ∀ (bs pre post : List Blk) (low : Nat), commitE bs pre.length ⟨pre ++ List.replicate bs.length (.dead 0) ++ post, low⟩ = some ⟨pre ++ bs ++ post, if bs.isEmpty = true then low else min low pre.length⟩
  | [], pre, post, low => by simp [commitE]
  | b :: bs, pre, post, low => by
    have h1 : (pre ++ List.replicate (b :: bs).length (Blk.dead 0) ++ post)[pre.length]? = some (.dead 0) := by
      simp [List.replicate_succ]
    simp only [commitE, h1]
    have h2 : (pre ++ List.replicate (b :: bs).length (Blk.dead 0) ++ post).set pre.length b = (pre ++ [b]) ++ List.replicate bs.length (Blk.dead 0) ++ post := by
      simp [List.replicate_succ, List.set_append]
    rw [h2]
    have := commit_dead bs (pre ++ [b]) post (min low pre.length)
    simp only [List.length_append, List.length_cons, List.length_nil, Nat.zero_add] at this
    rw [this]
    have h3 : min (min low pre.length) (pre.length + 1) = min low pre.length := by omega
    simp only [h3, List.isEmpty_cons, Bool.false_eq_true, if_false, ite_self, List.append_assoc, List.cons_append, List.nil_append]

def deadM (m : Mem) (n : Nat) : Mem := ⟨m.bl ++ List.replicate n (.dead 0), m.bl.length + n⟩
theorem deadM_len (m : Mem) (n : Nat) : (deadM m n).bl.length = m.bl.length + n := by simp [deadM]
theorem deadM_low (m : Mem) (n : Nat) : (deadM m n).low = (deadM m n).bl.length := by simp [deadM]
theorem deadM_grown (m : Mem) (n : Nat) : Grown m (deadM m n) := ⟨_, rfl⟩

section
variable {T : FuncId → Option EFunc} {G : Globs}
/-- At the cut the blocks are laid. -/
def cutLQ (T : FuncId → Option EFunc) (G : Globs) (m : Mem) (bs : List Blk) (os : List EOper) (fl : List Bool) (Q : St → Prop) (s : St) : Prop :=
  m.bl.length + bs.length ≤ s.m.low ∧ ∃ m1, commitE bs m.bl.length s.m = some m1 ∧ wpD T G m.bl.length os fl Q { s with m := m1 }
theorem wpC_regL {js : List Nat} {os : List EOper} {fl : List Bool} {cut : Nat} {Q : Ex → St → Prop} {A : Fr} {m : Mem} {d : List (FuncId × List EV)} {bs : List Blk} (hb : latesR 0 js os = some bs)
    (h : wpD T G m.bl.length ((subR m.bl.length 0 0 js os).take cut) (fl.take cut) (cutLQ T G m bs ((subR m.bl.length 0 0 js os).drop cut) (fl.drop cut) fun s' => Q .normal { s' with m := ⟨s'.m.bl, lowD m s'.m⟩ }) ⟨A, deadM m bs.length, d, none⟩) : wpC T G (.regL js os fl cut) Q ⟨A, m, d, none⟩ := by
  unfold wpD at h
  obtain ⟨k, s1, he, hl, m1, hm, h2⟩ := h
  unfold wpD at h2
  obtain ⟨k2, s', he2, hQ⟩ := h2
  rw [subR_eq hb] at he he2
  unfold wpC
  refine ⟨max k k2, .normal, { s' with m := ⟨s'.m.bl, lowD m s'.m⟩ }, ?_, hQ⟩
  exact regionL_of (s := ⟨A, m, d, none⟩) rfl (lates_of os 0 js bs hb [] rfl) (evD_mono (evFun_mono (Nat.le_max_left k k2)) he) hl hm (evD_mono (evFun_mono (Nat.le_max_right k k2)) he2)
theorem cutLQ_mk {m M : Mem} {bs : List Blk} {os : List EOper} {fl : List Bool} {Q : St → Prop} {A : Fr} {d : List (FuncId × List EV)} {p : Option (Option EV)} (hM : M = deadM m bs.length) (h : ∀ M1, M1 = ⟨m.bl ++ bs, m.bl.length⟩ → wpD T G m.bl.length os fl Q ⟨A, M1, d, p⟩) : cutLQ T G m bs os fl Q ⟨A, M, d, p⟩ := by
  subst hM
  refine ⟨Nat.le_refl _, ⟨m.bl ++ bs, m.bl.length⟩, ?_, h _ rfl⟩
  have := commit_dead bs m.bl [] (m.bl.length + bs.length)
  simp only [List.append_nil] at this
  unfold deadM
  rw [this]
  congr 2
  split
  · rename_i hb
    have : bs = [] := by simpa using hb
    simp [this]
  · omega
/-- The same, where more has been laid behind. -/
theorem cutLQ_any {m M : Mem} {bs post : List Blk} {os : List EOper} {fl : List Bool} {Q : St → Prop} {A : Fr} {d : List (FuncId × List EV)} {p : Option (Option EV)} (hM : M.bl = m.bl ++ List.replicate bs.length (.dead 0) ++ post) (hl : m.bl.length + bs.length ≤ M.low)
    (h : ∀ M1 : Mem, M1.bl = m.bl ++ bs ++ post → m.bl.length ≤ M1.low → wpD T G m.bl.length os fl Q ⟨A, M1, d, p⟩) : cutLQ T G m bs os fl Q ⟨A, M, d, p⟩ := by
  obtain ⟨bl, low⟩ := M
  simp only at hM hl
  subst hM
  refine ⟨hl, _, commit_dead bs m.bl post low, h _ rfl ?_⟩
  simp only
  split <;> omega
end
end Go.Ev
