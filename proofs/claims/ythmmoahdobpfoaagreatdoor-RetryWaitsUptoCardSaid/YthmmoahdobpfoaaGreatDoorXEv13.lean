/- The engine, part 13: what a call of the evaluator comes to, the machine's call does. There are no conditions but that the evaluator's functions are the loaded ones. -/
import Derived.Test.YthmmoahdobpfoaaGreatDoorXEv98
set_option linter.unusedSectionVars false
set_option linter.unusedVariables false
set_option linter.unusedSimpArgs false
namespace Go.Ev
open Go.RowKit (Below)

/-! ### What is to be recovered stays what it is -/
def PKeep (p p' : Option (Option EV)) : Prop := p' = p ∨ (p.isSome = true ∧ p' = some none)
theorem PKeep.refl (p : Option (Option EV)) : PKeep p p := .inl rfl
theorem PKeep.isSome {p p' : Option (Option EV)} (h : PKeep p p') : p'.isSome = p.isSome := by
  rcases h with rfl | ⟨h, rfl⟩
  · rfl
  · simp [h]
theorem PKeep.trans {a b c : Option (Option EV)} (h : PKeep a b) (k : PKeep b c) : PKeep a c := by
  rcases k with rfl | ⟨k1, rfl⟩
  · exact h
  · exact .inr ⟨by rw [← h.isSome]; exact k1, rfl⟩

theorem evOp_pk {c : CallE} {G : Globs} {o : EOp} {s : St} {r : Res × St} (h : evOp c G o s = some r) : PKeep s.p r.2.p := by
  by_cases hq : o.quiet = true
  · rw [evOp_quiet hq] at h
    obtain ⟨x, hx, rfl⟩ := Option.map_eq_some_iff.1 h
    exact PKeep.refl _
  · cases o <;> first | exact absurd rfl hq | skip
    · simp only [evOp] at h
      split at h
      · split at h
        · cases h; exact PKeep.refl _
        · cases h
      · cases h
    · simp only [evOp] at h
      split at h
      · cases h; exact PKeep.refl _
      · cases h
    · simp only [evOp] at h
      split at h
      · rename_i v hv
        cases h; exact .inr ⟨by simp [hv], rfl⟩
      · cases h; exact PKeep.refl _
      · cases h
    · simp only [evOp] at h
      split at h
      · cases h; exact PKeep.refl _
      · cases h

theorem evOps_pk {c : CallE} {G : Globs} : ∀ {os : List EOper} {s : St} {r : Ex × St}, evOps c G os s = some r → PKeep s.p r.2.p
  | [], _, _, h => by simp only [evOps] at h; cases h; exact PKeep.refl _
  | o :: os, s, r, h => by
    simp only [evOps] at h
    split at h
    · split at h
      · rename_i v s' hv
        have := evOps_pk h
        rw [put_p] at this
        exact (evOp_pk hv).trans this
      · rename_i v s' hv
        cases h
        have := evOp_pk hv
        exact this
      · cases h
    · have := evOps_pk h
      rwa [put_p] at this

theorem evD_none {c : CallE} {G : Globs} {n0 : Nat} : ∀ {os : List EOper} {fl : List Bool} {s s' : St}, evD c G n0 os fl s = some s' → s.p = none → s'.p = none
  | [], _, _, _, h, hp => by simp only [evD] at h; cases h; exact hp
  | o :: os, [], _, _, h, hp => by simp [evD] at h
  | o :: os, f :: fl, s, s', h, hp => by
    simp only [evD] at h
    split at h
    · rename_i s1 hs
      exact evD_none h (stepD_none hs hp)
    · cases h

theorem regionD_pk {c : CallE} {G : Globs} {ops : List EOper} {fl : List Bool} {cut : Nat} {s : St} {r : Ex × St} (h : regionD c G ops fl cut s = some r) : PKeep s.p r.2.p := by
  obtain ⟨N, h⟩ := regionD_spec h
  unfold regionN at h
  split at h
  · cases h
  rename_i hp
  have hp : s.p = none := by simpa using hp
  split at h
  · rename_i s1 hd
    split at h
    · split at h
      · rename_i s' hd2
        cases h
        exact .inl ((evD_none hd2 (evD_none hd hp)).trans hp.symm)
      · cases h
    · cases h
  · cases h

theorem regionL_pk {c : CallE} {G : Globs} {js : List Nat} {ops : List EOper} {fl : List Bool} {cut : Nat} {s : St} {r : Ex × St} (h : regionL c G js ops fl cut s = some r) : PKeep s.p r.2.p := by
  obtain ⟨bs, s1, m1, s', hp, _, h1, _, _, h2, rfl⟩ := regionL_spec h
  have h3 := evD_none h1 hp
  exact .inl ((evD_none h2 h3).trans hp.symm)

theorem iterE_pk {f : St → Option (Ex × St)} (hf : ∀ s r, f s = some r → PKeep s.p r.2.p) : ∀ (n : Nat) (s : St) (r : Ex × St), iterE f n s = some r → PKeep s.p r.2.p
  | 0, _, _, h => by simp [iterE] at h
  | n + 1, s, r, h => by
    simp only [iterE] at h
    split at h
    · rename_i s' hs
      exact (hf _ _ hs).trans (iterE_pk hf n _ _ h)
    · exact hf _ _ h

theorem evCode_pk {c : CallE} {G : Globs} {n : Nat} : ∀ {x : ECode} {s : St} {r : Ex × St}, evCode c G n x s = some r → PKeep s.p r.2.p := by
  intro x
  induction x with
  | skip => intro s r h; simp only [evCode] at h; cases h; exact PKeep.refl _
  | reg ops => intro s r h; exact evOps_pk h
  | regD ops fl cut => intro s r h; exact regionD_pk h
  | regL js ops fl cut => intro s r h; exact regionL_pk h
  | seq a b iha ihb =>
    intro s r h
    simp only [evCode] at h
    split at h
    · rename_i s' hs
      exact (iha hs).trans (ihb h)
    · exact iha h
  | cond q a b iha ihb =>
    intro s r h
    simp only [evCode] at h
    split at h
    · exact iha h
    · exact ihb h
    · cases h
  | block id a iha =>
    intro s r h
    simp only [evCode] at h
    split at h
    · rename_i i s' hs
      have := iha hs
      split at h <;> (cases h; exact this)
    · exact iha h
  | loop a iha =>
    intro s r h
    simp only [evCode] at h
    exact iterE_pk (fun s r hs => iha hs) _ _ _ h
  | exit id => intro s r h; simp only [evCode] at h; cases h; exact PKeep.refl _
  | ret => intro s r h; simp only [evCode] at h; cases h; exact PKeep.refl _

theorem evOps_p {c : CallE} {G : Globs} {os : List EOper} {s : St} {r : Ex × St} (h : evOps c G os s = some r) : r.2.p.isSome = s.p.isSome := (evOps_pk h).isSome
theorem evCode_p {c : CallE} {G : Globs} {n : Nat} {x : ECode} {s : St} {r : Ex × St} (h : evCode c G n x s = some r) : r.2.p.isSome = s.p.isSome := (evCode_pk h).isSome

/-! ### Code, in frames of one sort -/
def WpK (P : Program) (B : Frame → Prop) (c : Code) (Q : Exit → Act → List Frame → World → Prop) (a : Act) (cs : List Frame) (w : World) : Prop :=
  ∀ (b : Frame) (k : List Item), B b → ∃ e a' cs' w', Q e a' cs' w' ∧ Arrives P (lone (b.at a (.code c :: k)) cs w) b k cs' e a' w'

variable {P : Program} {X : Fix} {B : Frame → Prop}

/-- Regions do what the evaluator's do. -/
def LeafOk (P : Program) (X : Fix) (B : Frame → Prop) (q : Bool) (call : CallE) : Prop :=
  ∀ (id : Nat) (ops : Array Oper) (es : List EOper) (s : St) (ex : Ex) (s' : St) (j : Inj) (a : Act) (cs : List Frame) (w : World), opersC P X.nt ops ops.toList = some es → evOps call X.G es s = some (ex, s') → s.p.isSome = q → SRel X j s a cs w →
    WpK P B (.region id ops false) (XPost X ex s') a cs w

theorem leaf_plain {call : CallE} (hc : CallsOk P X.G X.base X.w0 call) : LeafOk P X B false call := by
  intro id ops es s ex s' j a cs w hl h hp hs b k hb
  have hp : s.p = none := by simpa using hp
  have hp' : s'.p = none := by have := evOps_p h; rw [hp] at this; simpa using this
  have hcs : cs = X.cs0 := by have := hs.pan; rw [hp] at this; exact this
  have := ops_sound (Q := fun e a w => XPost X ex s' e a cs w) hc (fun e a w h => h) ops.toList es 0 s a w j hl (by simp) h hp hs
  obtain ⟨e, a', w', q, r⟩ := wp_region (id := id) (by rw [List.range_eq_range']; exact this) b k cs
  exact ⟨e, a', cs, w', q, r⟩

theorem leaf_deferred {call : CallE} (hc : CallsOk P X.G X.base X.w0 call) : LeafOk P X (fun b => b.kind = .deferred ∧ b.roundOf = none) true call := by
  intro id ops es s ex s' j a cs w hl h hp hs b k hb
  have := opsS_sound (Q := XPost X ex s') hc (fun e a cs w h => h) ops.toList es 0 s a cs w j hl (by simp) h hs
  exact wpS_region (id := id) (by rw [List.range_eq_range']; exact this) b k hb.1 hb.2

theorem xpost_pass {ex : Ex} {s : St} {e : Exit} {a : Act} {cs : List Frame} {w : World} (h : XPost X ex s e a cs w) (hn : ex ≠ .normal) : e ≠ .normal := by
  obtain ⟨j, _, h⟩ := h
  rintro rfl
  cases ex <;> first | exact hn rfl | exact h.elim

/-- Regions whose order is drawn do what the evaluator's do. -/
def LeafDOk (P : Program) (X : Fix) (B : Frame → Prop) (q : Bool) (call : CallE) : Prop :=
  ∀ (id : Nat) (ops : Array Oper) (es : List EOper) (s : St) (ex : Ex) (s' : St) (j : Inj) (a : Act) (cs : List Frame) (w : World), opersC P X.nt ops ops.toList = some es → drawOk ops es (cutC ops es) = true → regionD call X.G es (flagsC ops es (cutC ops es)) (cutC ops es) s = some (ex, s') → s.p.isSome = q → SRel X j s a cs w →
    WpK P B (.region id ops true) (XPost X ex s') a cs w

theorem leafD_plain {call : CallE} (hmix : P.follows .mixedOrders = true) (hc : CallsOk P X.G X.base X.w0 call) (hkc : KeptC call) : LeafDOk P X B false call := by
  intro id ops es s ex s' j a cs w hl hok h hp hs b k hb
  obtain ⟨e, a', w', q, r⟩ := drawn_sound (id := id) hmix hc hkc hl hok h hs b k cs
  exact ⟨e, a', cs, w', q, r⟩

theorem leafD_deferred {call : CallE} : LeafDOk P X B true call := by
  intro id ops es s ex s' j a cs w hl hok h hp hs
  obtain ⟨N, h⟩ := regionD_spec h
  unfold regionN at h
  rw [if_pos hp] at h
  cases h

/-- Regions that lay blocks of known content do what the evaluator's do. -/
def LeafLOk (P : Program) (X : Fix) (B : Frame → Prop) (q : Bool) (call : CallE) : Prop :=
  ∀ (id : Nat) (ops : Array Oper) (es : List EOper) (s : St) (ex : Ex) (s' : St) (j : Inj) (a : Act) (cs : List Frame) (w : World), opersC P X.nt ops ops.toList = some es → lateOk ops es (cutC ops es) = true → regionL call X.G (latC ops es (cutC ops es)) es (flagsL ops es (cutC ops es)) (cutC ops es) s = some (ex, s') → s.p.isSome = q → SRel X j s a cs w →
    WpK P B (.region id ops true) (XPost X ex s') a cs w

theorem leafL_plain {call : CallE} (hmix : P.follows .mixedOrders = true) (hc : CallsOk P X.G X.base X.w0 call) (hkc : KeptC call) (hfc : FillC call) : LeafLOk P X B false call := by
  intro id ops es s ex s' j a cs w hl hok h hp hs b k hb
  obtain ⟨e, a', w', q, r⟩ := late_sound (id := id) hmix hc hkc hfc hl (cutC_le ops es) hok h hs b k cs
  exact ⟨e, a', cs, w', q, r⟩

theorem leafL_deferred {call : CallE} : LeafLOk P X B true call := by
  intro id ops es s ex s' j a cs w hl hok h hp hs
  obtain ⟨_, _, _, _, hn, _⟩ := regionL_spec h
  rw [hn] at hp
  cases hp

theorem code_sound {q : Bool} {call : CallE} {n : Nat} (hleaf : LeafOk P X B q call) (hleafD : LeafDOk P X B q call) (hleafL : LeafLOk P X B q call) : ∀ (c : Code) (x : ECode) (s : St) (ex : Ex) (s' : St) (j : Inj) (a : Act) (cs : List Frame) (w : World),
    codeC P X.nt c = some x → evCode call X.G n x s = some (ex, s') → s.p.isSome = q → SRel X j s a cs w → WpK P B c (XPost X ex s') a cs w := by
  intro c
  induction c with
  | skip =>
    intro x s ex s' j a cs w hx h hp hs b k hb
    simp only [codeC] at hx
    cases hx
    simp only [evCode] at h
    cases h
    exact ⟨.normal, a, cs, w, ⟨j, hs, trivial⟩, .one step_skip⟩
  | region id ops draw =>
    intro x s ex s' j a cs w hx h hp hs
    cases draw with
    | false =>
      simp only [codeC] at hx
      obtain ⟨es, hes, rfl⟩ := Option.map_eq_some_iff.1 hx
      exact hleaf id ops es s ex s' j a cs w hes h hp hs
    | true =>
      simp only [codeC] at hx
      split at hx
      case h_2 => cases hx
      rename_i es hes
      split at hx
      · rename_i hok
        cases hx
        exact hleafD id ops es s ex s' j a cs w hes hok h hp hs
      · split at hx
        · rename_i hok
          cases hx
          exact hleafL id ops es s ex s' j a cs w hes hok h hp hs
        · cases hx; simp [evCode, opd, undefE] at h
  | seq c1 c2 ih1 ih2 =>
    intro x s ex s' j a cs w hx h hp hs b k hb
    simp only [codeC] at hx
    split at hx
    case h_2 => cases hx
    rename_i x1 x2 hx1 hx2
    cases hx
    simp only [evCode] at h
    split at h
    · rename_i s1 h1
      obtain ⟨e1, a1, cs1, w1, ⟨j1, hs1, he1⟩, r1⟩ := ih1 x1 s .normal s1 j a cs w hx1 h1 hp hs b (.code c2 :: k) hb
      cases e1 <;> first | exact he1.elim | skip
      obtain ⟨e2, a2, cs2, w2, q2, r2⟩ := ih2 x2 s1 ex s' j1 a1 cs1 w1 hx2 h ((evCode_p h1).trans hp) hs1 b k hb
      exact ⟨e2, a2, cs2, w2, q2, .of_steps (.head step_seq r1) r2⟩
    · rename_i hne
      obtain ⟨e1, a1, cs1, w1, q1, r1⟩ := ih1 x1 s ex s' j a cs w hx1 h hp hs b (.code c2 :: k) hb
      have hn : e1 ≠ .normal := xpost_pass q1 (fun e => hne s' (by rw [h, e]))
      exact ⟨e1, a1, cs1, w1, q1, .of_steps (.one step_seq) (.pass (x := .code c2) rfl (fun _ _ => .inl hn) r1)⟩
  | cond c c1 c2 ih1 ih2 =>
    intro x s ex s' j a cs w hx h hp hs b k hb
    simp only [codeC] at hx
    split at hx
    case h_2 => cases hx
    rename_i cc x1 x2 hcc hx1 hx2
    cases hx
    have hr := opdC_rel hs.fr hcc
    simp only [evCode] at h
    split at h
    · rename_i hv
      rw [hv] at hr
      obtain ⟨e, a', cs', w', q, r⟩ := ih1 x1 s ex s' j a cs w hx1 h hp hs b k hb
      exact ⟨e, a', cs', w', q, .of_steps (.one (step_cond (t := true) hr)) r⟩
    · rename_i hv
      rw [hv] at hr
      obtain ⟨e, a', cs', w', q, r⟩ := ih2 x2 s ex s' j a cs w hx2 h hp hs b k hb
      exact ⟨e, a', cs', w', q, .of_steps (.one (step_cond (t := false) hr)) r⟩
    · cases h
  | block id c ih =>
    intro x s ex s' j a cs w hx h hp hs b k hb
    simp only [codeC] at hx
    obtain ⟨x1, hx1, rfl⟩ := Option.map_eq_some_iff.1 hx
    simp only [evCode] at h
    split at h
    · rename_i i s1 h1
      obtain ⟨e1, a1, cs1, w1, ⟨j1, hs1, he1⟩, r1⟩ := ih x1 s (.exit i) s1 j a cs w hx1 h1 hp hs b (.inBlock id :: k) hb
      cases e1 <;> first | exact he1.elim | skip
      rename_i i'
      cases (show i' = i from he1)
      split at h
      · rename_i hi
        cases h
        exact ⟨.normal, a1, cs1, w1, ⟨j1, hs1, trivial⟩, .head step_block (r1 k (by simp [exitTo, hi]))⟩
      · rename_i hi
        cases h
        refine ⟨.exit i, a1, cs1, w1, ⟨j1, hs1, rfl⟩, fun k' hk => .head step_block (r1 k' ?_)⟩
        have : (id == i) = false := by simp; exact fun h => hi h.symm
        simp [exitTo, this, hk]
    · rename_i hne
      obtain ⟨e1, a1, cs1, w1, q1, r1⟩ := ih x1 s ex s' j a cs w hx1 h hp hs b (.inBlock id :: k) hb
      cases e1 with
      | normal => exact ⟨.normal, a1, cs1, w1, q1, .head step_block (Steps.trans r1 (.one step_inBlock))⟩
      | exit i =>
        obtain ⟨j1, _, he1⟩ := q1
        cases ex <;> first | exact he1.elim | skip
        exact absurd h (hne _ _)
      | goto l =>
        obtain ⟨j1, _, he1⟩ := q1
        cases ex <;> exact he1.elim
      | ret => exact ⟨_, a1, cs1, w1, q1, .of_steps (.one step_block) r1⟩
      | panic ch => exact ⟨_, a1, cs1, w1, q1, .of_steps (.one step_block) r1⟩
      | outgrown =>
        obtain ⟨j1, _, he1⟩ := q1
        cases ex <;> exact he1.elim
  | loop c ih =>
    intro x s ex s' j a cs w hx h hp hs b k hb
    simp only [codeC] at hx
    obtain ⟨x1, hx1, rfl⟩ := Option.map_eq_some_iff.1 hx
    simp only [evCode] at h
    have key : ∀ (r : Nat) (s : St) (j : Inj) (a : Act) (cs : List Frame) (w : World), iterE (evCode call X.G n x1) r s = some (ex, s') → s.p.isSome = q → SRel X j s a cs w →
        ∃ e a' cs' w', XPost X ex s' e a' cs' w' ∧ Arrives P (lone (b.at a (.code c :: .inLoop c :: k)) cs w) b k cs' e a' w' := by
      intro r
      induction r with
      | zero => intro s j a cs w h; simp [iterE] at h
      | succ r ihr =>
        intro s j a cs w h hp hs
        simp only [iterE] at h
        split at h
        · rename_i s1 h1
          obtain ⟨e1, a1, cs1, w1, ⟨j1, hs1, he1⟩, r1⟩ := ih x1 s .normal s1 j a cs w hx1 h1 hp hs b (.inLoop c :: k) hb
          cases e1 <;> first | exact he1.elim | skip
          obtain ⟨e2, a2, cs2, w2, q2, r2⟩ := ihr s1 j1 a1 cs1 w1 h ((evCode_p h1).trans hp) hs1
          exact ⟨e2, a2, cs2, w2, q2, .of_steps (Steps.trans r1 (.one step_inLoop)) r2⟩
        · rename_i hne
          obtain ⟨e1, a1, cs1, w1, q1, r1⟩ := ih x1 s ex s' j a cs w hx1 h hp hs b (.inLoop c :: k) hb
          have hn : e1 ≠ .normal := xpost_pass q1 (fun e => hne s' (by rw [h, e]))
          exact ⟨e1, a1, cs1, w1, q1, .pass (x := .inLoop c) rfl (fun _ _ => .inl hn) r1⟩
    obtain ⟨e, a', cs', w', q, r⟩ := key n s j a cs w h hp hs
    exact ⟨e, a', cs', w', q, .of_steps (.one step_loop) r⟩
  | exit id =>
    intro x s ex s' j a cs w hx h hp hs b k hb
    simp only [codeC] at hx
    cases hx
    simp only [evCode] at h
    cases h
    exact ⟨.exit id, a, cs, w, ⟨j, hs, rfl⟩, fun _ hk => .one (step_exit hk)⟩
  | ret =>
    intro x s ex s' j a cs w hx h hp hs b k hb
    simp only [codeC] at hx
    cases hx
    simp only [evCode] at h
    cases h
    exact ⟨.ret, a, cs, w, ⟨j, hs, trivial⟩, _, .one step_ret⟩
  | refuse why =>
    intro x s ex s' j a cs w hx h hp hs
    simp only [codeC] at hx
    cases hx
    simp only [evCode, opd, undefE] at h
    cases h
  | _ =>
    intro x s ex s' j a cs w hx h hp hs
    simp only [codeC] at hx
    cases hx
    simp only [evCode, opd, undefE] at h
    cases h

end Go.Ev
