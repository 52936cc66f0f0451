/- The engine, part 4: how the evaluator is reasoned about: more rounds give the same answer; a rule for each form of code. There are no conditions. -/
import Derived.Test.YthmmoahdobpfoaaGreatDoorXEv1
set_option linter.unusedSectionVars false
set_option linter.unusedVariables false
set_option linter.unusedSimpArgs false
namespace Go.Ev

def LeC (c c' : CallE) : Prop := ∀ f args m p r, c f args m p = some r → c' f args m p = some r

theorem evOp_mono {c c' : CallE} (h : LeC c c') {G : Globs} {o : EOp} {s : St} {r : Res × St} (e : evOp c G o s = some r) : evOp c' G o s = some r := by
  cases o with
  | call f args =>
    simp only [evOp] at e ⊢
    split at e
    · rename_i g cap hg
      split at e
      · rename_i r' hr
        rw [h _ _ _ _ _ hr]
        exact e
      · cases e
    · cases e
  | _ => exact e

theorem evOps_mono {c c' : CallE} (h : LeC c c') {G : Globs} : ∀ {os : List EOper} {s : St} {r : Ex × St}, evOps c G os s = some r → evOps c' G os s = some r
  | [], _, _, e => e
  | o :: os, s, r, e => by
    simp only [evOps] at e ⊢
    split
    · rename_i hw
      rw [if_pos hw] at e
      split at e
      · rename_i v s' hv
        rw [evOp_mono h hv]
        exact evOps_mono h e
      · rename_i v s' hv
        rw [evOp_mono h hv]
        exact e
      · cases e
    · rename_i hw
      rw [if_neg hw] at e
      exact evOps_mono h e

theorem stepD_mono {c c' : CallE} (h : LeC c c') {G : Globs} {n0 : Nat} {o : EOper} {fl : Bool} {s s' : St} (e : stepD c G n0 o fl s = some s') : stepD c' G n0 o fl s = some s' := by
  unfold stepD at e ⊢
  split
  · rename_i hw
    rw [if_pos hw] at e
    cases fl with
    | true => exact e
    | false =>
      simp only [Bool.false_eq_true, if_false] at e ⊢
      split at e
      · rename_i v s1 hv
        rw [evOp_mono h hv]
        exact e
      · cases e
  · rename_i hw
    rw [if_neg hw] at e
    exact e

theorem evD_mono {c c' : CallE} (h : LeC c c') {G : Globs} {n0 : Nat} : ∀ {os : List EOper} {fl : List Bool} {s s' : St}, evD c G n0 os fl s = some s' → evD c' G n0 os fl s = some s'
  | [], _, _, _, e => e
  | o :: os, [], s, s', e => by simp [evD] at e
  | o :: os, f :: fl, s, s', e => by
    simp only [evD] at e ⊢
    split at e
    · rename_i s1 hs
      rw [stepD_mono h hs]
      exact evD_mono h e
    · cases e

theorem stepD_same {c : CallE} {G : Globs} {n n' : Nat} {o : EOper} {f : Bool} {s a b : St} (e1 : stepD c G n o f s = some a) (e2 : stepD c G n' o f s = some b) : a = b := by
  unfold stepD at e1 e2
  split at e1
  · rename_i hw
    rw [if_pos hw] at e2
    cases f with
    | true =>
      simp only [if_true] at e1 e2
      split at e1
      · split at e2
        · rw [e1] at e2; exact Option.some.inj e2
        · cases e2
      · cases e1
    | false =>
      simp only [Bool.false_eq_true, if_false] at e1 e2
      rw [e1] at e2
      exact Option.some.inj e2
  · rename_i hw
    rw [if_neg hw] at e2
    rw [← Option.some.inj e1, ← Option.some.inj e2]
theorem evD_same {c : CallE} {G : Globs} {n n' : Nat} : ∀ {os : List EOper} {fl : List Bool} {s a b : St}, evD c G n os fl s = some a → evD c G n' os fl s = some b → a = b
  | [], _, _, _, _, e1, e2 => by
    simp only [evD] at e1 e2
    rw [e1] at e2
    exact Option.some.inj e2
  | o :: os, [], _, _, _, e1, _ => by simp [evD] at e1
  | o :: os, f :: fl, s, a, b, e1, e2 => by
    simp only [evD] at e1 e2
    split at e1
    · rename_i s1 h1
      split at e2
      · rename_i s2 h2
        have := stepD_same h1 h2
        subst this
        exact evD_same e1 e2
      · cases e2
    · cases e1
theorem regionN_mono {c c' : CallE} (h : LeC c c') {G : Globs} {N : Nat} {ops : List EOper} {fl : List Bool} {cut : Nat} {s : St} {r : Ex × St} (e : regionN c G N ops fl cut s = some r) : regionN c' G N ops fl cut s = some r := by
  unfold regionN at e ⊢
  split at e
  · cases e
  rename_i hp
  rw [if_neg hp]
  cases hd : evD c G N (ops.take cut) (fl.take cut) { s with m := ⟨s.m.bl, s.m.bl.length⟩ } with
  | none => rw [hd] at e; cases e
  | some s1 =>
    rw [hd] at e
    rw [evD_mono h hd]
    simp only at e ⊢
    split at e
    case isFalse => cases e
    rename_i hl
    rw [if_pos hl]
    cases hd2 : evD c G N (ops.drop cut) (fl.drop cut) s1 with
    | none => rw [hd2] at e; cases e
    | some s' => rw [hd2] at e; rw [evD_mono h hd2]; exact e
theorem regionN_same {c : CallE} {G : Globs} {N N' : Nat} {ops : List EOper} {fl : List Bool} {cut : Nat} {s : St} {r r' : Ex × St} (e : regionN c G N ops fl cut s = some r) (e' : regionN c G N' ops fl cut s = some r') : r = r' := by
  unfold regionN at e e'
  split at e
  · cases e
  rename_i hp
  rw [if_neg hp] at e'
  split at e
  case h_2 => cases e
  rename_i s1 h1
  split at e'
  case h_2 => cases e'
  rename_i s2 h2
  have := evD_same h1 h2
  subst this
  split at e
  case isFalse => cases e
  split at e'
  case isFalse => cases e'
  split at e
  case h_2 => cases e
  rename_i s3 h3
  split at e'
  case h_2 => cases e'
  rename_i s4 h4
  have := evD_same h3 h4
  subst this
  rw [e] at e'
  exact Option.some.inj e'
theorem regionD_spec {c : CallE} {G : Globs} {ops : List EOper} {fl : List Bool} {cut : Nat} {s : St} {r : Ex × St} (e : regionD c G ops fl cut s = some r) : ∃ N, regionN c G N ops fl cut s = some r := by
  unfold regionD at e
  split at e
  case h_2 => cases e
  split at e
  · rename_i r' hr
    cases e
    exact ⟨_, hr⟩
  · exact ⟨_, e⟩
theorem regionD_mono {c c' : CallE} (h : LeC c c') {G : Globs} {ops : List EOper} {fl : List Bool} {cut : Nat} {s : St} {r : Ex × St} (e : regionD c G ops fl cut s = some r) : regionD c' G ops fl cut s = some r := by
  unfold regionD at e ⊢
  split at e
  case h_2 => cases e
  rename_i s1 h1
  rw [evD_mono h h1]
  simp only
  split at e
  · rename_i r' hr
    rw [regionN_mono h hr]
    exact e
  · have e2 := regionN_mono h e
    cases hr : regionN c' G s.m.bl.length ops fl cut s with
    | none => exact e2
    | some r' =>
      simp only
      rw [regionN_same hr e2]
theorem regionD_of {c : CallE} {G : Globs} {ops : List EOper} {fl : List Bool} {cut : Nat} {s : St} {r : Ex × St} (e : regionN c G s.m.bl.length ops fl cut s = some r) : regionD c G ops fl cut s = some r := by
  unfold regionD
  rw [e]
  unfold regionN at e
  split at e
  · cases e
  split at e
  case h_2 => cases e
  rename_i s1 h1
  simp only [h1]

/-- What a region with blocks of known content comes to. -/
theorem regionL_spec {c : CallE} {G : Globs} {js : List Nat} {ops : List EOper} {fl : List Bool} {cut : Nat} {s : St} {r : Ex × St} (e : regionL c G js ops fl cut s = some r) :
    ∃ bs s1 m1 s', s.p = none ∧ lates ops js = some bs ∧ evD c G s.m.bl.length ((subL s.m.bl.length js ops).take cut) (fl.take cut) { s with m := ⟨s.m.bl ++ List.replicate bs.length (.dead 0), s.m.bl.length + bs.length⟩ } = some s1 ∧
      s.m.bl.length + bs.length ≤ s1.m.low ∧ commitE bs s.m.bl.length s1.m = some m1 ∧ evD c G s.m.bl.length ((subL s.m.bl.length js ops).drop cut) (fl.drop cut) { s1 with m := m1 } = some s' ∧ r = (.normal, { s' with m := ⟨s'.m.bl, lowD s.m s'.m⟩ }) := by
  unfold regionL at e
  split at e
  · cases e
  rename_i hp
  have hp : s.p = none := by simpa using hp
  split at e
  · cases e
  rename_i bs hbs
  split at e
  case h_2 => cases e
  rename_i s1 h1
  split at e
  case isFalse => cases e
  rename_i hl
  split at e
  case h_2 => cases e
  rename_i m1 hm
  split at e
  case h_2 => cases e
  rename_i s' h2
  cases e
  exact ⟨bs, s1, m1, s', hp, hbs, h1, hl, hm, h2, rfl⟩
theorem regionL_of {c : CallE} {G : Globs} {js : List Nat} {ops : List EOper} {fl : List Bool} {cut : Nat} {s s1 s' : St} {bs : List Blk} {m1 : Mem} (hp : s.p = none) (hbs : lates ops js = some bs)
    (h1 : evD c G s.m.bl.length ((subL s.m.bl.length js ops).take cut) (fl.take cut) { s with m := ⟨s.m.bl ++ List.replicate bs.length (.dead 0), s.m.bl.length + bs.length⟩ } = some s1)
    (hl : s.m.bl.length + bs.length ≤ s1.m.low) (hm : commitE bs s.m.bl.length s1.m = some m1) (h2 : evD c G s.m.bl.length ((subL s.m.bl.length js ops).drop cut) (fl.drop cut) { s1 with m := m1 } = some s') :
    regionL c G js ops fl cut s = some (.normal, { s' with m := ⟨s'.m.bl, lowD s.m s'.m⟩ }) := by
  unfold regionL
  rw [if_neg (by rw [hp]; simp)]
  simp only [hbs, h1, if_pos hl, hm, h2]
theorem regionL_mono {c c' : CallE} (h : LeC c c') {G : Globs} {js : List Nat} {ops : List EOper} {fl : List Bool} {cut : Nat} {s : St} {r : Ex × St} (e : regionL c G js ops fl cut s = some r) : regionL c' G js ops fl cut s = some r := by
  obtain ⟨bs, s1, m1, s', hp, hbs, h1, hl, hm, h2, rfl⟩ := regionL_spec e
  exact regionL_of hp hbs (evD_mono h h1) hl hm (evD_mono h h2)

theorem iterE_mono {f g : St → Option (Ex × St)} (h : ∀ s r, f s = some r → g s = some r) : ∀ {n n' : Nat} {s : St} {r : Ex × St}, n ≤ n' → iterE f n s = some r → iterE g n' s = some r
  | 0, _, _, _, _, e => by simp [iterE] at e
  | n + 1, 0, _, _, hn, _ => by omega
  | n + 1, n' + 1, s, r, hn, e => by
    simp only [iterE] at e ⊢
    split at e
    · rename_i s' hs
      rw [h _ _ hs]
      exact iterE_mono h (by omega) e
    · rename_i r' hne
      cases hf : f s with
      | none => rw [hf] at e; cases e
      | some q =>
        rw [hf] at e
        rw [h _ _ hf]
        cases e
        split
        · rename_i s' hq
          cases hq
          exact absurd hf (hne s')
        · rfl

theorem evCode_mono {c c' : CallE} (h : LeC c c') {G : Globs} {n n' : Nat} (hn : n ≤ n') : ∀ {x : ECode} {s : St} {r : Ex × St}, evCode c G n x s = some r → evCode c' G n' x s = some r := by
  intro x
  induction x with
  | skip => intro s r e; exact e
  | reg ops => intro s r e; exact evOps_mono h e
  | regD ops fl cut =>
    intro s r e
    exact regionD_mono h e
  | regL js ops fl cut =>
    intro s r e
    exact regionL_mono h e
  | seq a b iha ihb =>
    intro s r e
    simp only [evCode] at e ⊢
    split at e
    · rename_i s' hs
      rw [iha hs]
      exact ihb e
    · rename_i hne
      cases hf : evCode c G n a s with
      | none => rw [hf] at e; cases e
      | some q =>
        rw [hf] at e
        rw [iha hf]
        cases e
        split
        · rename_i s' hq
          cases hq
          exact absurd hf (hne s')
        · rfl
  | cond q a b iha ihb =>
    intro s r e
    simp only [evCode] at e ⊢
    split at e
    · exact iha e
    · exact ihb e
    · cases e
  | block id a iha =>
    intro s r e
    simp only [evCode] at e ⊢
    cases hf : evCode c G n a s with
    | none => rw [hf] at e; cases e
    | some q => rw [hf] at e; rw [iha hf]; exact e
  | loop a iha =>
    intro s r e
    simp only [evCode] at e ⊢
    exact iterE_mono (fun s r hs => iha hs) hn e
  | exit id => intro s r e; exact e
  | ret => intro s r e; exact e

theorem runD_mono {c c' : CallE} (h : LeC c c') : ∀ {ds : List (FuncId × List EV)} {m : Mem} {pan : Option EV} {r : Option EV × Mem}, runD c ds m pan = some r → runD c' ds m pan = some r
  | [], _, _, _, e => e
  | (f, args) :: ds, m, pan, r, e => by
    simp only [runD] at e ⊢
    split at e
    · rename_i v m' p hc
      rw [h _ _ _ _ _ hc]
      exact runD_mono h e
    · cases e

theorem finE_mono {c c' : CallE} (h : LeC c c') {G : Globs} {res : List ERes} {m : Mem} {pan : Option EV} {s : St} {r : CR} (e : finE c G res m pan s = some r) : finE c' G res m pan s = some r := by
  unfold finE at e ⊢
  by_cases hq : s.p.isSome = true ∧ s.d.isEmpty = false
  · rw [if_pos hq] at e; cases e
  rw [if_neg hq] at e ⊢
  cases hd : runD c s.d s.m pan with
  | none => rw [hd] at e; cases e
  | some q => rw [hd] at e; rw [runD_mono h hd]; exact e

variable {T : FuncId → Option EFunc} {G : Globs}

theorem evFun_step (T : FuncId → Option EFunc) (G : Globs) : ∀ k, LeC (evFun T G k) (evFun T G (k + 1))
  | 0 => fun f args m p r e => by simp [evFun] at e
  | k + 1 => fun f args m p r e => by
    have ih := evFun_step T G k
    rw [evFun] at e ⊢
    cases hT : T f with
    | none => rw [hT] at e; cases e
    | some ef =>
      rw [hT] at e
      simp only at e ⊢
      cases hp : ef.prim with
      | some n =>
        rw [hp] at e
        cases n with
        | num n => exact e
        | orc o => exact e
        | mnz t => exact e
        | weak =>
          simp only at e ⊢
          split at e
          · cases e
          rename_i hpn
          rw [if_neg hpn]
          cases hq : weakE args m with
          | none => rw [hq] at e; cases e
          | some q =>
            rw [hq] at e
            simp only at e ⊢
            cases hc : evCode (evFun T G k) G k ef.body ⟨argsE q.1, ⟨q.2.bl, q.2.bl.length⟩, [], none⟩ with
            | none => rw [hc] at e; cases e
            | some z =>
              obtain ⟨ex, s⟩ := z
              rw [hc] at e
              rw [evCode_mono ih (Nat.le_succ k) hc]
              cases ex with
              | normal => exact finE_mono ih e
              | ret => exact finE_mono ih e
              | pan v => exact finE_mono ih e
              | exit id => cases e
      | none =>
      rw [hp] at e
      simp only at e ⊢
      cases hc : evCode (evFun T G k) G k ef.body ⟨argsE args, ⟨m.bl, m.bl.length⟩, [], p⟩ with
      | none => rw [hc] at e; cases e
      | some q =>
        obtain ⟨ex, s⟩ := q
        rw [hc] at e
        rw [evCode_mono ih (Nat.le_succ k) hc]
        cases ex with
        | normal => exact finE_mono ih e
        | ret => exact finE_mono ih e
        | pan v => exact finE_mono ih e
        | exit id => cases e

theorem evFun_mono {k k' : Nat} (h : k ≤ k') : LeC (evFun T G k) (evFun T G k') := by
  induction h with
  | refl => exact fun _ _ _ _ _ e => e
  | step _ ih => exact fun f args m p r e => evFun_step T G _ _ _ _ _ _ (ih _ _ _ _ _ e)

/-! ### What code comes to, with rounds enough -/
/-- A call answers so. -/
def Comes (T : FuncId → Option EFunc) (G : Globs) (f : FuncId) (args : List EV) (m : Mem) (p : Option (Option EV)) (r : CR) : Prop := ∃ k, evFun T G k f args m p = some r

def wpOps (T : FuncId → Option EFunc) (G : Globs) (os : List EOper) (Q : Ex → St → Prop) (s : St) : Prop :=
  ∃ k ex s', evOps (evFun T G k) G os s = some (ex, s') ∧ Q ex s'
def wpC (T : FuncId → Option EFunc) (G : Globs) (c : ECode) (Q : Ex → St → Prop) (s : St) : Prop :=
  ∃ k ex s', evCode (evFun T G k) G k c s = some (ex, s') ∧ Q ex s'

theorem wpOps_nil {Q : Ex → St → Prop} {s : St} (h : Q .normal s) : wpOps T G [] Q s := ⟨0, _, _, rfl, h⟩

/-- What one operation that calls nothing does. -/
def stepE (G : Globs) (o : EOp) (dst : Option Nat) (A : Fr) (m : Mem) (K : Fr → Mem → Prop) : Prop :=
  match evVal G o A m with
  | some (v, m') => K (match dst with | some d => upd A d v | none => A) m'
  | none => False

def EOp.quiet : EOp → Bool
  | .call _ _ | .panic _ | .recover | .defer _ _ => false
  | _ => true

theorem evOp_quiet {call : CallE} {o : EOp} (h : o.quiet = true) (s : St) : evOp call G o s = (evVal G o s.A s.m).map fun r => (.val r.1, { s with m := r.2 }) := by
  cases o <;> first | rfl | simp [EOp.quiet] at h

theorem wpOps_step {o : EOp} {dst : Option Nat} {os : List EOper} {Q : Ex → St → Prop} {A : Fr} {m : Mem} {d : List (FuncId × List EV)} {p : Option (Option EV)} (hq : o.quiet = true)
    (h : stepE G o dst A m fun A m => wpOps T G os Q ⟨A, m, d, p⟩) : wpOps T G (⟨dst, o, none⟩ :: os) Q ⟨A, m, d, p⟩ := by
  unfold stepE at h
  split at h
  · rename_i v m' hv
    obtain ⟨k, ex, s', he, hQ⟩ := h
    refine ⟨k, ex, s', ?_, hQ⟩
    simp only [evOps, wantedE, if_true, evOp_quiet hq, hv, Option.map_some]
    cases dst <;> exact he
  · exact h.elim

theorem wpOps_off {o : EOp} {dst : Option Nat} {g : Nat × Bool} {os : List EOper} {Q : Ex → St → Prop} {A : Fr} {m : Mem} {d : List (FuncId × List EV)} {p : Option (Option EV)} (hg : wantedE A (some g) = false)
    (h : wpOps T G os Q ⟨match dst with | some t => upd A t undefE | none => A, m, d, p⟩) : wpOps T G (⟨dst, o, some g⟩ :: os) Q ⟨A, m, d, p⟩ := by
  obtain ⟨k, ex, s', he, hQ⟩ := h
  refine ⟨k, ex, s', ?_, hQ⟩
  simp only [evOps, hg, Bool.false_eq_true, if_false]
  cases dst <;> exact he

theorem wpOps_on {o : EOp} {dst : Option Nat} {g : Nat × Bool} {os : List EOper} {Q : Ex → St → Prop} {A : Fr} {m : Mem} {d : List (FuncId × List EV)} {p : Option (Option EV)} (hg : wantedE A (some g) = true)
    (h : wpOps T G (⟨dst, o, none⟩ :: os) Q ⟨A, m, d, p⟩) : wpOps T G (⟨dst, o, some g⟩ :: os) Q ⟨A, m, d, p⟩ := by
  obtain ⟨k, ex, s', he, hQ⟩ := h
  refine ⟨k, ex, s', ?_, hQ⟩
  simp only [evOps, hg, if_true]
  simp only [evOps, wantedE, if_true] at he
  exact he

theorem wpOps_call {f : Opd} {args : List Opd} {dst : Option Nat} {os : List EOper} {Q : Ex → St → Prop} {A : Fr} {m : Mem} {d : List (FuncId × List EV)} {p : Option (Option EV)} {fid : FuncId} {cap : List EV} {v : EV} {m' : Mem} {p' : Option (Option EV)}
    (hf : opd A f = .func fid cap) (hc : Comes T G fid (args.map (opd A) ++ cap) m none ⟨.val v, m', p'⟩)
    (h : wpOps T G os Q ⟨match dst with | some t => upd A t v | none => A, m', d, p⟩) : wpOps T G (⟨dst, .call f args, none⟩ :: os) Q ⟨A, m, d, p⟩ := by
  obtain ⟨k1, e1⟩ := hc
  obtain ⟨k, ex, s', he, hQ⟩ := h
  refine ⟨max k1 k, ex, s', ?_, hQ⟩
  simp only [evOps, wantedE, if_true, evOp, hf, evFun_mono (Nat.le_max_left k1 k) _ _ _ _ _ e1]
  have := evOps_mono (evFun_mono (Nat.le_max_right k1 k)) he
  cases dst <;> exact this

theorem wpC_reg {os : List EOper} {Q : Ex → St → Prop} {s : St} (h : wpOps T G os Q s) : wpC T G (.reg os) Q s := h
/-- A region whose order is drawn, operation by operation. -/
def wpD (T : FuncId → Option EFunc) (G : Globs) (n0 : Nat) (os : List EOper) (fl : List Bool) (Q : St → Prop) (s : St) : Prop :=
  ∃ k s', evD (evFun T G k) G n0 os fl s = some s' ∧ Q s'

theorem wpC_regD2 {os : List EOper} {fl : List Bool} {cut : Nat} {Q : Ex → St → Prop} {A : Fr} {m : Mem} {d : List (FuncId × List EV)}
    (h : wpD T G m.bl.length (os.take cut) (fl.take cut) (fun s1 => m.bl.length ≤ s1.m.low ∧ wpD T G m.bl.length (os.drop cut) (fl.drop cut) (fun s' => Q .normal { s' with m := ⟨s'.m.bl, lowD m s'.m⟩ }) s1) ⟨A, ⟨m.bl, m.bl.length⟩, d, none⟩) : wpC T G (.regD os fl cut) Q ⟨A, m, d, none⟩ := by
  obtain ⟨k, s1, he, hl, k2, s', he2, hQ⟩ := h
  refine ⟨max k k2, .normal, { s' with m := ⟨s'.m.bl, lowD m s'.m⟩ }, ?_, hQ⟩
  refine regionD_of ?_
  simp only [regionN, Option.isSome_none, Bool.false_eq_true, if_false, evD_mono (evFun_mono (Nat.le_max_left k k2)) he, if_pos hl, evD_mono (evFun_mono (Nat.le_max_right k k2)) he2]

theorem wpC_regD {os : List EOper} {fl : List Bool} {cut : Nat} {Q : Ex → St → Prop} {A : Fr} {m : Mem} {d : List (FuncId × List EV)} (hc : os.take cut = os ∧ fl.take cut = fl ∧ os.drop cut = [] ∧ fl.drop cut = [])
    (h : wpD T G m.bl.length os fl (fun s' => m.bl.length ≤ s'.m.low ∧ Q .normal { s' with m := ⟨s'.m.bl, m.low⟩ }) ⟨A, ⟨m.bl, m.bl.length⟩, d, none⟩) : wpC T G (.regD os fl cut) Q ⟨A, m, d, none⟩ := by
  obtain ⟨k, s', he, hl, hQ⟩ := h
  refine wpC_regD2 ?_
  rw [hc.1, hc.2.1, hc.2.2.1, hc.2.2.2]
  exact ⟨k, s', he, hl, 0, s', rfl, by
    have e : lowD m s'.m = m.low := if_pos hl
    show Q .normal { s' with m := ⟨s'.m.bl, lowD m s'.m⟩ }
    rw [e]; exact hQ⟩

theorem wpD_nil {n0 : Nat} {fl : List Bool} {Q : St → Prop} {s : St} (h : Q s) : wpD T G n0 [] fl Q s := ⟨0, s, rfl, h⟩

theorem wpD_float {n0 : Nat} {o : EOp} {dst : Option Nat} {os : List EOper} {fl : List Bool} {Q : St → Prop} {A : Fr} {m : Mem} {d : List (FuncId × List EV)} {p : Option (Option EV)} (hf : floatOk n0 A o = true)
    (h : stepE G o dst A m fun A m' => wpD T G n0 os fl Q ⟨A, m, d, p⟩) : wpD T G n0 (⟨dst, o, none⟩ :: os) (true :: fl) Q ⟨A, m, d, p⟩ := by
  unfold stepE at h
  split at h
  · rename_i v m' hv
    obtain ⟨k, s', he, hQ⟩ := h
    refine ⟨k, s', ?_, hQ⟩
    simp only [evD, stepD, wantedE, if_true, hf, hv, Option.map_some]
    cases dst <;> exact he
  · exact h.elim

theorem wpD_step {n0 : Nat} {o : EOp} {dst : Option Nat} {os : List EOper} {fl : List Bool} {Q : St → Prop} {A : Fr} {m : Mem} {d : List (FuncId × List EV)} {p : Option (Option EV)} (hq : o.quiet = true)
    (h : stepE G o dst A m fun A m' => wpD T G n0 os fl Q ⟨A, m', d, p⟩) : wpD T G n0 (⟨dst, o, none⟩ :: os) (false :: fl) Q ⟨A, m, d, p⟩ := by
  unfold stepE at h
  split at h
  · rename_i v m' hv
    obtain ⟨k, s', he, hQ⟩ := h
    refine ⟨k, s', ?_, hQ⟩
    simp only [evD, stepD, wantedE, if_true, Bool.false_eq_true, if_false, evOp_quiet hq, hv, Option.map_some]
    cases dst <;> exact he
  · exact h.elim

theorem wpD_off {n0 : Nat} {o : EOp} {dst : Option Nat} {g : Nat × Bool} {os : List EOper} {f : Bool} {fl : List Bool} {Q : St → Prop} {A : Fr} {m : Mem} {d : List (FuncId × List EV)} {p : Option (Option EV)} (hg : wantedE A (some g) = false)
    (h : wpD T G n0 os fl Q ⟨match dst with | some t => upd A t undefE | none => A, m, d, p⟩) : wpD T G n0 (⟨dst, o, some g⟩ :: os) (f :: fl) Q ⟨A, m, d, p⟩ := by
  obtain ⟨k, s', he, hQ⟩ := h
  refine ⟨k, s', ?_, hQ⟩
  simp only [evD, stepD, hg, Bool.false_eq_true, if_false]
  cases dst <;> exact he

theorem wpD_on {n0 : Nat} {o : EOp} {dst : Option Nat} {g : Nat × Bool} {os : List EOper} {f : Bool} {fl : List Bool} {Q : St → Prop} {A : Fr} {m : Mem} {d : List (FuncId × List EV)} {p : Option (Option EV)} (hg : wantedE A (some g) = true)
    (h : wpD T G n0 (⟨dst, o, none⟩ :: os) (f :: fl) Q ⟨A, m, d, p⟩) : wpD T G n0 (⟨dst, o, some g⟩ :: os) (f :: fl) Q ⟨A, m, d, p⟩ := by
  obtain ⟨k, s', he, hQ⟩ := h
  refine ⟨k, s', ?_, hQ⟩
  simp only [evD, stepD, hg, if_true]
  simp only [evD, stepD, wantedE, if_true] at he
  exact he

theorem wpD_call {n0 : Nat} {f : Opd} {args : List Opd} {dst : Option Nat} {os : List EOper} {fl : List Bool} {Q : St → Prop} {A : Fr} {m : Mem} {d : List (FuncId × List EV)} {p : Option (Option EV)} {fid : FuncId} {cap : List EV} {v : EV} {m' : Mem} {p' : Option (Option EV)}
    (hf : opd A f = .func fid cap) (hc : Comes T G fid (args.map (opd A) ++ cap) m none ⟨.val v, m', p'⟩)
    (h : wpD T G n0 os fl Q ⟨match dst with | some t => upd A t v | none => A, m', d, p⟩) : wpD T G n0 (⟨dst, .call f args, none⟩ :: os) (false :: fl) Q ⟨A, m, d, p⟩ := by
  obtain ⟨k1, e1⟩ := hc
  obtain ⟨k, s', he, hQ⟩ := h
  refine ⟨max k1 k, s', ?_, hQ⟩
  simp only [evD, stepD, wantedE, if_true, Bool.false_eq_true, if_false, evOp, hf, evFun_mono (Nat.le_max_left k1 k) _ _ _ _ _ e1]
  have := evD_mono (evFun_mono (Nat.le_max_right k1 k)) he
  cases dst <;> exact this
theorem wpC_skip {Q : Ex → St → Prop} {s : St} (h : Q .normal s) : wpC T G .skip Q s := ⟨0, _, _, rfl, h⟩
theorem wpC_exit {id : Nat} {Q : Ex → St → Prop} {s : St} (h : Q (.exit id) s) : wpC T G (.exit id) Q s := ⟨0, _, _, rfl, h⟩
theorem wpC_ret {Q : Ex → St → Prop} {s : St} (h : Q .ret s) : wpC T G .ret Q s := ⟨0, _, _, rfl, h⟩

def thenE (T : FuncId → Option EFunc) (G : Globs) (b : ECode) (Q : Ex → St → Prop) : Ex → St → Prop
  | .normal, s => wpC T G b Q s
  | e, s => Q e s

theorem wpC_mono {c : ECode} {Q Q' : Ex → St → Prop} {s : St} (h : wpC T G c Q s) (hq : ∀ e s, Q e s → Q' e s) : wpC T G c Q' s :=
  let ⟨k, ex, s', he, hQ⟩ := h; ⟨k, ex, s', he, hq _ _ hQ⟩

theorem wpC_seq {a b : ECode} {Q : Ex → St → Prop} {s : St} (h : wpC T G a (thenE T G b Q) s) : wpC T G (.seq a b) Q s := by
  obtain ⟨k, ex, s', he, hQ⟩ := h
  cases ex with
  | normal =>
    obtain ⟨k2, ex2, s2, he2, hQ2⟩ := hQ
    refine ⟨max k k2, ex2, s2, ?_, hQ2⟩
    simp only [evCode, evCode_mono (evFun_mono (Nat.le_max_left k k2)) (Nat.le_max_left k k2) he]
    exact evCode_mono (evFun_mono (Nat.le_max_right k k2)) (Nat.le_max_right k k2) he2
  | exit id => exact ⟨k, _, s', by simp only [evCode, he], hQ⟩
  | ret => exact ⟨k, _, s', by simp only [evCode, he], hQ⟩
  | pan v => exact ⟨k, _, s', by simp only [evCode, he], hQ⟩

theorem wpC_cond {c : Opd} {a b : ECode} {Q : Ex → St → Prop} {s : St} {t : Bool} (hc : opd s.A c = .bool t) (ha : t = true → wpC T G a Q s) (hb : t = false → wpC T G b Q s) : wpC T G (.cond c a b) Q s := by
  cases t with
  | true =>
    obtain ⟨k, ex, s', he, hQ⟩ := ha rfl
    exact ⟨k, ex, s', by simp only [evCode, hc]; exact he, hQ⟩
  | false =>
    obtain ⟨k, ex, s', he, hQ⟩ := hb rfl
    exact ⟨k, ex, s', by simp only [evCode, hc]; exact he, hQ⟩

def blockE (id : Nat) (Q : Ex → St → Prop) : Ex → St → Prop
  | .exit i, s => if i = id then Q .normal s else Q (.exit i) s
  | e, s => Q e s

theorem wpC_block {id : Nat} {c : ECode} {Q : Ex → St → Prop} {s : St} (h : wpC T G c (blockE id Q) s) : wpC T G (.block id c) Q s := by
  obtain ⟨k, ex, s', he, hQ⟩ := h
  cases ex with
  | exit i =>
    simp only [blockE] at hQ
    by_cases hi : i = id
    · rw [if_pos hi] at hQ
      exact ⟨k, .normal, s', by simp only [evCode, he, if_pos hi], hQ⟩
    · rw [if_neg hi] at hQ
      exact ⟨k, .exit i, s', by simp only [evCode, he, if_neg hi], hQ⟩
  | normal => exact ⟨k, _, s', by simp only [evCode, he], hQ⟩
  | ret => exact ⟨k, _, s', by simp only [evCode, he], hQ⟩
  | pan v => exact ⟨k, _, s', by simp only [evCode, he], hQ⟩

/-- What a loop's round leads to. -/
def againE (I : Nat → St → Prop) (n : Nat) (Q : Ex → St → Prop) : Ex → St → Prop
  | .normal, s => ∃ n', n' < n ∧ I n' s
  | e, s => Q e s

theorem wpC_loop {c : ECode} {Q : Ex → St → Prop} (I : Nat → St → Prop) (hI : ∀ n s, I n s → wpC T G c (againE I n Q) s) : ∀ (n : Nat) (s : St), I n s → wpC T G (.loop c) Q s := by
  intro n
  induction n using Nat.strongRecOn with
  | _ n ih =>
    intro s hs
    obtain ⟨k, ex, s', he, hQ⟩ := hI n s hs
    cases ex with
    | normal =>
      obtain ⟨n', hn, hs'⟩ := hQ
      obtain ⟨k2, ex2, s2, he2, hQ2⟩ := ih n' hn s' hs'
      refine ⟨max k k2 + 1, ex2, s2, ?_, hQ2⟩
      simp only [evCode, iterE] at he2 ⊢
      rw [evCode_mono (evFun_mono (show k ≤ max k k2 + 1 by omega)) (by omega) he]
      exact iterE_mono (fun s r h => evCode_mono (evFun_mono (by omega)) (by omega) h) (by omega) he2
    | exit id => exact ⟨k + 1, _, s', by simp only [evCode, iterE]; rw [evCode_mono (evFun_mono (Nat.le_succ k)) (Nat.le_succ k) he], hQ⟩
    | ret => exact ⟨k + 1, _, s', by simp only [evCode, iterE]; rw [evCode_mono (evFun_mono (Nat.le_succ k)) (Nat.le_succ k) he], hQ⟩
    | pan v => exact ⟨k + 1, _, s', by simp only [evCode, iterE]; rw [evCode_mono (evFun_mono (Nat.le_succ k)) (Nat.le_succ k) he], hQ⟩

/-- What a function's body has to come to, if nothing is deferred. -/
def postE (G : Globs) (res : List ERes) (m : Mem) (r : CR) : Ex → St → Prop
  | .normal, s | .ret, s => s.d = [] ∧ ∃ vs, resultsE G s.A s.m res = some vs ∧ r = ⟨.val (oneE vs), leaveE m (oneE vs) s.m, s.p⟩
  | .pan v, s => s.d = [] ∧ r = ⟨.pan v, leaveE m v s.m, s.p⟩
  | _, _ => False

/-- What a function's body has to come to. -/
def postD (T : FuncId → Option EFunc) (G : Globs) (res : List ERes) (m : Mem) (r : CR) : Ex → St → Prop
  | .normal, s | .ret, s => ∃ k, finE (evFun T G k) G res m none s = some r
  | .pan v, s => ∃ k, finE (evFun T G k) G res m (some v) s = some r
  | _, _ => False

theorem comes_ofD {f : FuncId} {args : List EV} {m : Mem} {p : Option (Option EV)} {r : CR} {ef : EFunc} (hT : T f = some ef) (hp : ef.prim = none)
    (h : wpC T G ef.body (postD T G ef.res m r) ⟨argsE args, ⟨m.bl, m.bl.length⟩, [], p⟩) : Comes T G f args m p r := by
  obtain ⟨k, ex, s', he, hQ⟩ := h
  cases ex with
  | exit id => exact hQ.elim
  | normal =>
    obtain ⟨k2, hk⟩ := hQ
    refine ⟨max k k2 + 1, ?_⟩
    simp only [evFun, hT, hp, evCode_mono (evFun_mono (Nat.le_max_left k k2)) (Nat.le_max_left k k2) he]
    exact finE_mono (evFun_mono (Nat.le_max_right k k2)) hk
  | ret =>
    obtain ⟨k2, hk⟩ := hQ
    refine ⟨max k k2 + 1, ?_⟩
    simp only [evFun, hT, hp, evCode_mono (evFun_mono (Nat.le_max_left k k2)) (Nat.le_max_left k k2) he]
    exact finE_mono (evFun_mono (Nat.le_max_right k k2)) hk
  | pan v =>
    obtain ⟨k2, hk⟩ := hQ
    refine ⟨max k k2 + 1, ?_⟩
    simp only [evFun, hT, hp, evCode_mono (evFun_mono (Nat.le_max_left k k2)) (Nat.le_max_left k k2) he]
    exact finE_mono (evFun_mono (Nat.le_max_right k k2)) hk

theorem comes_of {f : FuncId} {args : List EV} {m : Mem} {p : Option (Option EV)} {r : CR} {ef : EFunc} (hT : T f = some ef) (hp : ef.prim = none)
    (h : wpC T G ef.body (postE G ef.res m r) ⟨argsE args, ⟨m.bl, m.bl.length⟩, [], p⟩) : Comes T G f args m p r := by
  refine comes_ofD hT hp (wpC_mono h fun ex s hQ => ?_)
  cases ex with
  | exit id => exact hQ.elim
  | normal =>
    obtain ⟨hd, vs, hv, rfl⟩ := hQ
    exact ⟨0, by simp only [finE, hd, runD, hv, Option.map_some, List.isEmpty_nil, Bool.true_eq_false, and_false, if_false]⟩
  | ret =>
    obtain ⟨hd, vs, hv, rfl⟩ := hQ
    exact ⟨0, by simp only [finE, hd, runD, hv, Option.map_some, List.isEmpty_nil, Bool.true_eq_false, and_false, if_false]⟩
  | pan v =>
    obtain ⟨hd, rfl⟩ := hQ
    exact ⟨0, by simp only [finE, hd, runD, List.isEmpty_nil, Bool.true_eq_false, and_false, if_false]⟩

/-- As comes_of, where what it comes to is found on the way. -/
theorem comes_ofQ {f : FuncId} {args : List EV} {m : Mem} {p : Option (Option EV)} {Φ : CR → Prop} {ef : EFunc} (hT : T f = some ef) (hp : ef.prim = none)
    (h : wpC T G ef.body (fun ex s => ∃ r, postE G ef.res m r ex s ∧ Φ r) ⟨argsE args, ⟨m.bl, m.bl.length⟩, [], p⟩) : ∃ r, Comes T G f args m p r ∧ Φ r := by
  obtain ⟨k, ex, s', he, r, hq, hΦ⟩ := h
  exact ⟨r, comes_of hT hp ⟨k, ex, s', he, hq⟩, hΦ⟩

attribute [irreducible] wpOps wpC wpD
end Go.Ev
