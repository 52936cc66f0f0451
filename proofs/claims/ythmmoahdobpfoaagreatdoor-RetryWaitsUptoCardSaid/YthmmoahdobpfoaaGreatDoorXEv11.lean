/- The engine, part 11: what the evaluator leaves as it was; why a call that wrote nothing old and tells of nothing new leaves memory as it was. There are no conditions. -/
import Derived.Test.YthmmoahdobpfoaaGreatDoorXEv10
set_option linter.unusedSectionVars false
set_option linter.unusedVariables false
set_option linter.unusedSimpArgs false
namespace Go.Ev
open Go.RowKit (Below)

/-- What lies below low is as it was. -/
def Kept (m m' : Mem) : Prop := m.low ≤ m.bl.length → m'.low ≤ m.low ∧ m'.low ≤ m'.bl.length ∧ ∀ b, b < m'.low → m'.bl[b]? = m.bl[b]?

theorem Kept.refl (m : Mem) : Kept m m := fun h => ⟨Nat.le_refl _, h, fun _ _ => rfl⟩
theorem Kept.trans {a b c : Mem} (h : Kept a b) (k : Kept b c) : Kept a c := fun hl =>
  let ⟨h1, h2, h3⟩ := h hl
  let ⟨k1, k2, k3⟩ := k h2
  ⟨Nat.le_trans k1 h1, k2, fun i hi => (k3 i hi).trans (h3 i (Nat.lt_of_lt_of_le hi k1))⟩
theorem Kept.push (m : Mem) (b : Blk) : Kept m (m.push b) := fun h =>
  ⟨Nat.le_refl _, by simp [Mem.push]; omega, fun i hi => by
    simp only [Mem.push] at hi ⊢
    exact List.getElem?_append_left (by omega)⟩
theorem Kept.set (m : Mem) (b : Nat) (x : Blk) : Kept m ⟨m.bl.set b x, min m.low b⟩ := fun h =>
  ⟨Nat.min_le_left _ _, by simp; omega, fun i hi => by
    simp only at hi ⊢
    rw [List.getElem?_set]
    have : b ≠ i := by omega
    simp [this]⟩

theorem write_kept {m m' : Mem} {b : Base} {n : Nat} {x : List EV → List EV} (h : m.write b n x = some m') : Kept m m' := by
  unfold Mem.write at h
  split at h
  · split at h
    · split at h
      · cases h; exact Kept.set _ _ _
      · cases h
    · cases h
  · cases h
  · split at h
    · cases h; exact Kept.refl _
    · cases h

theorem putN_kept {m m' : Mem} {a : Ad} {vs : List EV} (h : m.putN a vs = some m') : Kept m m' := write_kept h
theorem put1_kept {m m' : Mem} {a : Ad} {v : EV} (h : m.put1 a v = some m') : Kept m m' := write_kept h

theorem grow_kept {m : Mem} {esz bytes tag len : Nat} {a : Ad} {new : List EV} {n : Nat} {r : EV × Mem} (h : growE m esz bytes tag a len new n = some r) : Kept m r.2 := by
  unfold growE at h
  repeat' split at h
  all_goals first
    | (cases h; first | exact Kept.refl _ | exact Kept.set _ _ _)
    | cases h
theorem append_kept {G : Globs} {m : Mem} {esz bytes tag : Nat} {s : EV} {new : List EV} {n : Nat} {r : EV × Mem} (h : appendE G m esz bytes tag s new n = some r) : Kept m r.2 := by
  unfold appendE at h
  repeat' split at h
  all_goals first
    | (cases h; first | exact Kept.refl _ | exact Kept.push _ _ | exact Kept.set _ _ _)
    | exact grow_kept h
    | (cases h; exact putN_kept (by assumption))
    | cases h

theorem evVal_kept {G : Globs} {o : EOp} {A : Fr} {m : Mem} {r : EV × Mem} (h : evVal G o A m = some r) : Kept m r.2 := by
  cases o
  case mapSet q x k v =>
    simp only [evVal] at h
    repeat' split at h
    all_goals first
      | (obtain ⟨f, hf, rfl⟩ := Option.map_eq_some_iff.1 h; exact Kept.set _ _ _)
      | cases h
  case delete q x k =>
    simp only [evVal] at h
    repeat' split at h
    all_goals first
      | (obtain ⟨f, hf, rfl⟩ := Option.map_eq_some_iff.1 h; first | exact Kept.refl _ | exact Kept.set _ _ _)
      | cases h
  all_goals simp only [evVal] at h
  all_goals (repeat' split at h)
  all_goals first
    | (cases h; first | exact Kept.refl _ | exact Kept.push _ _ | exact Kept.set _ _ _)
    | exact append_kept h
    | (obtain ⟨m', hm, rfl⟩ := Option.map_eq_some_iff.1 h; first | exact Kept.refl _ | exact Kept.push _ _ | exact Kept.set _ _ _ | exact putN_kept hm | exact put1_kept hm)
    | cases h

def KeptC (c : CallE) : Prop := ∀ f args m p r, c f args m p = some r → Kept m r.m

theorem evOp_kept {c : CallE} (hc : KeptC c) {G : Globs} {o : EOp} {s : St} {r : Res × St} (h : evOp c G o s = some r) : Kept s.m r.2.m := by
  by_cases hq : o.quiet = true
  · rw [evOp_quiet hq] at h
    obtain ⟨x, hx, rfl⟩ := Option.map_eq_some_iff.1 h
    exact evVal_kept hx
  · cases o <;> first | exact absurd rfl hq | skip
    · simp only [evOp] at h
      split at h
      · split at h
        · rename_i r' hr
          cases h
          exact hc _ _ _ _ _ hr
        · cases h
      · cases h
    · simp only [evOp] at h
      split at h
      · cases h; exact Kept.refl _
      · cases h
    · simp only [evOp] at h
      split at h
      · cases h; exact Kept.refl _
      · cases h; exact Kept.refl _
      · cases h
    · simp only [evOp] at h
      split at h
      · cases h; exact Kept.refl _
      · cases h

theorem put_m (s : St) (d : Option Nat) (v : EV) : (s.put d v).m = s.m := by cases d <;> rfl
theorem put_d (s : St) (d : Option Nat) (v : EV) : (s.put d v).d = s.d := by cases d <;> rfl
theorem put_p (s : St) (d : Option Nat) (v : EV) : (s.put d v).p = s.p := by cases d <;> rfl

theorem evOps_kept {c : CallE} (hc : KeptC c) {G : Globs} : ∀ {os : List EOper} {s : St} {r : Ex × St}, evOps c G os s = some r → Kept s.m r.2.m
  | [], _, _, h => by simp only [evOps] at h; cases h; exact Kept.refl _
  | o :: os, s, r, h => by
    simp only [evOps] at h
    split at h
    · split at h
      · rename_i v s' hv
        have := evOps_kept hc h
        rw [put_m] at this
        exact (evOp_kept hc hv).trans this
      · rename_i v s' hv
        cases h
        exact evOp_kept hc hv
      · cases h
    · have := evOps_kept hc h
      rwa [put_m] at this

theorem stepD_kept {c : CallE} (hc : KeptC c) {G : Globs} {n0 : Nat} {o : EOper} {fl : Bool} {s s' : St} (h : stepD c G n0 o fl s = some s') : Kept s.m s'.m := by
  unfold stepD at h
  split at h
  · split at h
    · split at h
      · obtain ⟨r, hr, rfl⟩ := Option.map_eq_some_iff.1 h
        rw [put_m]
        exact Kept.refl _
      · cases h
    · split at h
      · rename_i v s1 hv
        cases h
        rw [put_m]
        exact evOp_kept hc hv
      · cases h
  · cases h
    rw [put_m]
    exact Kept.refl _

theorem evD_kept {c : CallE} (hc : KeptC c) {G : Globs} {n0 : Nat} : ∀ {os : List EOper} {fl : List Bool} {s s' : St}, evD c G n0 os fl s = some s' → Kept s.m s'.m
  | [], _, _, _, h => by simp only [evD] at h; cases h; exact Kept.refl _
  | o :: os, [], _, _, h => by simp [evD] at h
  | o :: os, f :: fl, s, s', h => by
    simp only [evD] at h
    split at h
    · rename_i s1 hs
      exact (stepD_kept hc hs).trans (evD_kept hc h)
    · cases h

theorem regionD_kept {c : CallE} (hc : KeptC c) {G : Globs} {ops : List EOper} {fl : List Bool} {cut : Nat} {s : St} {r : Ex × St} (h : regionD c G ops fl cut s = some r) : Kept s.m r.2.m := by
  obtain ⟨N, h⟩ := regionD_spec h
  unfold regionN at h
  split at h
  · cases h
  split at h
  · rename_i s1 hd
    split at h
    · rename_i hl
      split at h
      · rename_i s' hd2
        cases h
        intro hlow
        obtain ⟨h1, h2, h3⟩ := ((evD_kept hc hd).trans (evD_kept hc hd2)) (Nat.le_refl _)
        simp only [lowD]
        split
        · rename_i hl2
          exact ⟨Nat.le_refl _, Nat.le_trans hlow (Nat.le_trans hl2 h2), fun b hb => h3 b (Nat.lt_of_lt_of_le hb (Nat.le_trans hlow hl2))⟩
        · exact ⟨Nat.min_le_left _ _, Nat.le_trans (Nat.min_le_right _ _) h2, fun b hb => h3 b (Nat.lt_of_lt_of_le hb (Nat.min_le_right _ _))⟩
      · cases h
    · cases h
  · cases h

theorem lates_len {ops : List EOper} : ∀ {js : List Nat} {bs : List Blk}, lates ops js = some bs → bs.length = js.length
  | [], bs, h => by simp only [lates] at h; cases h; rfl
  | j :: js, bs, h => by
    simp only [lates] at h
    split at h
    · rename_i b bs' h1 h2
      cases h
      simp [lates_len h2]
    · cases h
/-- What the laying of blocks leaves. -/
theorem commit_spec : ∀ {bs : List Blk} {r : Nat} {m m' : Mem}, commitE bs r m = some m' → m'.bl.length = m.bl.length ∧ m'.low ≤ m.low ∧ min m.low r ≤ m'.low ∧ (∀ b, (b < r ∨ r + bs.length ≤ b) → m'.bl[b]? = m.bl[b]?) ∧ ∀ i x, bs[i]? = some x → m.bl[r + i]? = some (.dead 0) ∧ m'.bl[r + i]? = some x
  | [], r, m, m', h => by
    simp only [commitE] at h
    cases h
    exact ⟨rfl, Nat.le_refl _, Nat.min_le_left _ _, fun _ _ => rfl, fun i x hx => by simp at hx⟩
  | b :: bs, r, m, m', h => by
    simp only [commitE] at h
    split at h
    · rename_i hd
      obtain ⟨h1, h2, h3, h4, h5⟩ := commit_spec h
      have hlt : r < m.bl.length := (List.getElem?_eq_some_iff.1 hd).1
      simp only [List.length_set] at h1
      refine ⟨h1, by simp only at h2; omega, by simp only at h3; omega, fun c hc => ?_, fun i x hx => ?_⟩
      · rw [h4 c (by simp only [List.length_cons] at hc; omega)]
        simp only
        rw [List.getElem?_set_ne (by simp only [List.length_cons] at hc; omega)]
      · cases i with
        | zero =>
          simp only [List.getElem?_cons_zero, Option.some.injEq] at hx
          subst hx
          refine ⟨hd, ?_⟩
          rw [Nat.add_zero, h4 r (.inl (by omega))]
          simp [hlt]
        | succ i =>
          simp only [List.getElem?_cons_succ] at hx
          obtain ⟨q1, q2⟩ := h5 i x hx
          rw [show r + 1 + i = r + (i + 1) by omega] at q1 q2
          refine ⟨?_, q2⟩
          simp only at q1
          rw [List.getElem?_set_ne (by omega)] at q1
          exact q1
    · cases h
theorem regionL_kept {c : CallE} (hc : KeptC c) {G : Globs} {js : List Nat} {ops : List EOper} {fl : List Bool} {cut : Nat} {s : St} {r : Ex × St} (h : regionL c G js ops fl cut s = some r) : Kept s.m r.2.m := by
  obtain ⟨bs, s1, m1, s', hp, hbs, h1, hl, hm, h2, rfl⟩ := regionL_spec h
  obtain ⟨c1, c2, c3, c4, _⟩ := commit_spec hm
  intro hlow
  obtain ⟨k1, k2, k3⟩ := evD_kept hc h1 (by simp)
  simp only [List.length_append, List.length_replicate] at k1 k2 k3
  obtain ⟨q1, q2, q3⟩ := evD_kept hc h2 (by simp only; omega)
  simp only at q1 q2 q3
  have old : ∀ b, b < s.m.bl.length → b < s'.m.low → s'.m.bl[b]? = s.m.bl[b]? := fun b hb hb2 => by
    rw [q3 b hb2, c4 b (.inl hb), k3 b (by omega), List.getElem?_append_left hb]
  simp only [lowD]
  split
  · rename_i hl2
    exact ⟨Nat.le_refl _, by omega, fun b hb => old b (by omega) (by omega)⟩
  · exact ⟨Nat.min_le_left _ _, by omega, fun b hb => old b (by omega) (by omega)⟩

theorem iterE_kept {f : St → Option (Ex × St)} (hf : ∀ s r, f s = some r → Kept s.m r.2.m) : ∀ (n : Nat) (s : St) (r : Ex × St), iterE f n s = some r → Kept s.m r.2.m
  | 0, _, _, h => by simp [iterE] at h
  | n + 1, s, r, h => by
    simp only [iterE] at h
    split at h
    · rename_i s' hs
      exact (hf _ _ hs).trans (iterE_kept hf n _ _ h)
    · exact hf _ _ h

theorem evCode_kept {c : CallE} (hc : KeptC c) {G : Globs} {n : Nat} : ∀ {x : ECode} {s : St} {r : Ex × St}, evCode c G n x s = some r → Kept s.m r.2.m := by
  intro x
  induction x with
  | skip => intro s r h; simp only [evCode] at h; cases h; exact Kept.refl _
  | reg ops => intro s r h; exact evOps_kept hc h
  | regD ops fl cut => intro s r h; exact regionD_kept hc h
  | regL js ops fl cut => intro s r h; exact regionL_kept hc h
  | seq a b iha ihb =>
    intro s r h
    simp only [evCode] at h
    split at h
    · rename_i s' hs
      exact (iha hs).trans (ihb h)
    · exact iha h
  | cond q a b iha ihb =>
    intro s r h
    simp only [evCode] at h
    split at h
    · exact iha h
    · exact ihb h
    · cases h
  | block id a iha =>
    intro s r h
    simp only [evCode] at h
    split at h
    · rename_i i s' hs
      have := iha hs
      split at h <;> (cases h; exact this)
    · exact iha h
  | loop a iha =>
    intro s r h
    simp only [evCode] at h
    exact iterE_kept (fun s r hs => iha hs) _ _ _ h
  | exit id => intro s r h; simp only [evCode] at h; cases h; exact Kept.refl _
  | ret => intro s r h; simp only [evCode] at h; cases h; exact Kept.refl _

theorem runD_kept {c : CallE} (hc : KeptC c) : ∀ {ds : List (FuncId × List EV)} {m : Mem} {pan : Option EV} {r : Option EV × Mem}, runD c ds m pan = some r → Kept m r.2
  | [], _, _, _, h => by simp only [runD] at h; cases h; exact Kept.refl _
  | (f, args) :: ds, m, pan, r, h => by
    simp only [runD] at h
    split at h
    · rename_i v m' p hcall
      exact (hc _ _ _ _ _ hcall).trans (runD_kept hc h)
    · cases h

/-- A call's own count of what is old. -/
theorem leave_kept {m m' : Mem} {v : EV} (h : Kept ⟨m.bl, m.bl.length⟩ m') : Kept m (leaveE m v m') := by
  unfold leaveE
  split
  · exact Kept.refl _
  · intro hl
    obtain ⟨h1, h2, h3⟩ := h (Nat.le_refl _)
    exact ⟨Nat.min_le_left _ _, Nat.le_trans (Nat.min_le_right _ _) h2, fun b hb => h3 b (Nat.lt_of_lt_of_le hb (Nat.min_le_right _ _))⟩

theorem fin_kept {c : CallE} (hc : KeptC c) {G : Globs} {res : List ERes} {m : Mem} {pan : Option EV} {s : St} {r : CR} (h : finE c G res m pan s = some r) (hs : Kept ⟨m.bl, m.bl.length⟩ s.m) : Kept m r.m := by
  unfold finE at h
  split at h
  · cases h
  split at h
  · rename_i m' hd
    obtain ⟨vs, hv, rfl⟩ := Option.map_eq_some_iff.1 h
    exact leave_kept (hs.trans (runD_kept hc hd))
  · rename_i v m' hd
    cases h
    exact leave_kept (hs.trans (runD_kept hc hd))
  · cases h

theorem prim_same {n : Prim} {G : Globs} {args : List EV} {m : Mem} {r : EV × Mem} (hn : ∀ t, n ≠ .mnz t) (h : primE n G args m = some r) : r.2 = m := by
  unfold primE at h
  split at h
  · unfold ibsE at h
    split at h
    · split at h
      · cases h; rfl
      · cases h
    · cases h
  · unfold noeE at h
    split at h
    · cases h; rfl
    · cases h
  · unfold ffbE at h
    split at h
    · cases h; rfl
    · cases h
  · unfold cntE at h
    split at h
    · cases h; rfl
    · cases h
  · unfold ibyE at h
    split at h
    · obtain ⟨v, _, rfl⟩ := Option.map_eq_some_iff.1 h
      rfl
    · cases h
  · unfold idxE at h
    split at h
    · split at h
      · split at h
        · cases h; rfl
        · cases h
      · cases h
    · cases h
  · cases h
  · obtain ⟨v, _, rfl⟩ := Option.map_eq_some_iff.1 h
    rfl
  · cases h
  · exact absurd rfl (hn _)
theorem prim_kept {n : Prim} {G : Globs} {args : List EV} {m : Mem} {r : EV × Mem} (h : primE n G args m = some r) : Kept m r.2 := by
  by_cases hn : ∃ t, n = .mnz t
  · obtain ⟨t, rfl⟩ := hn
    replace h : mnzE t args m = some r := h
    unfold mnzE at h
    split at h
    · split at h
      · cases h; exact Kept.push _ _
      · cases h
    · cases h
  · rw [prim_same (fun t e => hn ⟨t, e⟩) h]
    exact Kept.refl m

theorem weak_kept {args : List EV} {m : Mem} {q : List EV × Mem} (h : weakE args m = some q) : Kept m q.2 := by
  unfold weakE at h
  repeat' split at h
  all_goals first
    | (cases h; first | exact Kept.refl _ | exact Kept.set _ _ _)
    | cases h

theorem evFun_kept {T : FuncId → Option EFunc} {G : Globs} : ∀ k, KeptC (evFun T G k)
  | 0 => fun f args m p r h => by simp [evFun] at h
  | k + 1 => fun f args m p r h => by
    rw [evFun] at h
    split at h
    · cases h
    · split at h
      · split at h
        · cases h
        split at h
        · cases h
        rename_i q hq
        refine (weak_kept hq).trans ?_
        split at h
        · rename_i s hc
          exact fin_kept (evFun_kept k) h (evCode_kept (evFun_kept k) hc)
        · rename_i s hc
          exact fin_kept (evFun_kept k) h (evCode_kept (evFun_kept k) hc)
        · rename_i v s hc
          exact fin_kept (evFun_kept k) h (evCode_kept (evFun_kept k) hc)
        · cases h
      · split at h
        · cases h
        · obtain ⟨q, hq, rfl⟩ := Option.map_eq_some_iff.1 h
          exact prim_kept hq
      · split at h
        · rename_i s hc
          exact fin_kept (evFun_kept k) h (evCode_kept (evFun_kept k) hc)
        · rename_i s hc
          exact fin_kept (evFun_kept k) h (evCode_kept (evFun_kept k) hc)
        · rename_i v s hc
          exact fin_kept (evFun_kept k) h (evCode_kept (evFun_kept k) hc)
        · cases h

/-! ### Where a value leads -/
mutual
theorem VRel.noref {j : Inj} {m : Mem} : ∀ (x : EV) {v : Value}, VRel j m x v → Ev.noref m.bl.length x = true
  | .bool _, _, r => rfl
  | .int _ _, _, r => rfl
  | .flt _ _, _, r => rfl
  | .str _, _, r => rfl
  | .ptr none, _, r => rfl
  | .ptr (some ⟨.glob g, o⟩), _, r => rfl
  | .ptr (some ⟨.weak w, o⟩), _, r => rfl
  | .ptr (some ⟨.mem b g, o⟩), _, ⟨a', e, r⟩ => by simp only [Ev.noref, decide_eq_true_eq]; exact r.1
  | .slice none _ _ _, _, r => rfl
  | .slice (some ⟨.glob g, o⟩) _ _ _, _, r => rfl
  | .slice (some ⟨.weak w, o⟩) _ _ _, _, r => rfl
  | .slice (some ⟨.mem b g, o⟩) _ _ _, _, ⟨a', c', e, h1, h2, r⟩ => by simp only [Ev.noref, decide_eq_true_eq]; exact r.1
  | .map none, _, r => rfl
  | .map (some _), _, ⟨r', e, h1, h2⟩ => by simp only [Ev.noref, decide_eq_true_eq]; exact genAt_lt h1
  | .func _ c, _, ⟨c', e, r⟩ => by simp only [Ev.noref]; exact VsRel.norefs c r
  | .nilFunc, _, r => rfl
  | .iface _ x, _, ⟨x', e, r⟩ => by simp only [Ev.noref]; exact VRel.noref x r
  | .nilIface, _, r => rfl
  | .agg cs, _, ⟨c', e, r, k⟩ => by simp only [Ev.noref]; exact VsRel.norefs cs r
  | .tuple cs, _, ⟨c', e, r⟩ => by simp only [Ev.noref]; exact VsRel.norefs cs r
  | .iter _, _, ⟨r', e, h1, h2⟩ => by simp only [Ev.noref, decide_eq_true_eq]; exact genAt_lt h1
theorem VsRel.norefs {j : Inj} {m : Mem} : ∀ (xs : List EV) {l : List Value}, VsRel j m xs l → Ev.norefs m.bl.length xs = true
  | [], _, r => rfl
  | x :: xs, _, ⟨y, ys, e, r, rs⟩ => by simp only [Ev.norefs, Bool.and_eq_true]; exact ⟨VRel.noref x r, VsRel.norefs xs rs⟩
end

section
variable {j : Inj} {m m' : Mem} (heq : ∀ b, b < m.bl.length → m'.bl[b]? = m.bl[b]?)
include heq

theorem gen_back {b : Nat} (hb : b < m.bl.length) : genAt m' b = genAt m b := by unfold genAt; rw [heq b hb]
theorem live_back {b g : Nat} (hb : b < m.bl.length) : live m' b g ↔ live m b g := by unfold live; rw [heq b hb]
theorem liveMap_back {b : Nat} (hb : b < m.bl.length) : liveMap m' b ↔ liveMap m b := by unfold liveMap; rw [heq b hb]

mutual
theorem VRel.back : ∀ (x : EV) {v : Value}, Ev.noref m.bl.length x = true → VRel j m' x v → VRel j m x v
  | .bool _, _, _, r => r
  | .int _ _, _, _, r => r
  | .flt _ _, _, _, r => r
  | .str _, _, _, r => r
  | .ptr none, _, _, r => r
  | .ptr (some ⟨.glob g, o⟩), _, _, r => r
  | .ptr (some ⟨.weak w, o⟩), _, _, r => r
  | .ptr (some ⟨.mem b g, o⟩), _, hn, ⟨a', e, r⟩ => by
    simp only [Ev.noref, decide_eq_true_eq] at hn
    exact ⟨a', e, hn, by rw [← gen_back heq hn]; exact r.2.1, fun hl => r.2.2 ((live_back heq hn).2 hl)⟩
  | .slice none _ _ _, _, _, r => r
  | .slice (some ⟨.glob g, o⟩) _ _ _, _, _, r => r
  | .slice (some ⟨.weak w, o⟩) _ _ _, _, _, r => r
  | .slice (some ⟨.mem b g, o⟩) _ _ _, _, hn, ⟨a', c', e, h1, h2, r⟩ => by
    simp only [Ev.noref, decide_eq_true_eq] at hn
    exact ⟨a', c', e, h1, h2, hn, by rw [← gen_back heq hn]; exact r.2.1, fun hl => r.2.2 ((live_back heq hn).2 hl)⟩
  | .map none, _, _, r => r
  | .map (some b), _, hn, ⟨r', e, h1, h2⟩ => by
    simp only [Ev.noref, decide_eq_true_eq] at hn
    exact ⟨r', e, by rw [← gen_back heq hn]; exact h1, fun hl => h2 ((liveMap_back heq hn).2 hl)⟩
  | .func _ c, _, hn, ⟨c', e, r⟩ => ⟨c', e, VsRel.back c (by simpa only [Ev.noref] using hn) r⟩
  | .nilFunc, _, _, r => r
  | .iface _ x, _, hn, ⟨x', e, r⟩ => ⟨x', e, VRel.back x (by simpa only [Ev.noref] using hn) r⟩
  | .nilIface, _, _, r => r
  | .agg cs, _, hn, ⟨c', e, r, k⟩ => ⟨c', e, VsRel.back cs (by simpa only [Ev.noref] using hn) r, k⟩
  | .tuple cs, _, hn, ⟨c', e, r⟩ => ⟨c', e, VsRel.back cs (by simpa only [Ev.noref] using hn) r⟩
  | .iter b, _, hn, ⟨r', e, h1, h2⟩ => by
    simp only [Ev.noref, decide_eq_true_eq] at hn
    exact ⟨r', e, by rw [← gen_back heq hn]; exact h1, fun hl => h2 ((liveMap_back heq hn).2 hl)⟩
theorem VsRel.back : ∀ (xs : List EV) {l : List Value}, Ev.norefs m.bl.length xs = true → VsRel j m' xs l → VsRel j m xs l
  | [], _, _, r => r
  | x :: xs, _, hn, ⟨y, ys, e, r, rs⟩ => by
    simp only [Ev.norefs, Bool.and_eq_true] at hn
    exact ⟨y, ys, e, VRel.back x hn.1 r, VsRel.back xs hn.2 rs⟩
end
end

theorem Ext.low (j : Inj) {m m' : Mem} (h : m'.bl = m.bl) : Ext j m j m' := by
  cases m
  cases m'
  cases h
  exact ⟨Nat.le_refl _, fun _ _ => Nat.le_refl _, fun _ _ _ _ h => ⟨h, rfl, rfl, rfl⟩, fun _ _ h => ⟨h, rfl⟩, fun _ _ h => h⟩

section
variable {G : Globs} {base : Nat} {w0 w w' : World} {j j' : Inj} {m m' : Mem}

theorem MemRel.low (hm : MemRel G base w0 j m w) (h : m'.bl = m.bl) : MemRel G base w0 j m' w := by
  have he := Ext.low j h
  refine ⟨hm.below, hm.big, ?_, ?_, ?_, ?_, ?_, fun b cs gen rw' c ty fr hb => hm.typed b cs gen rw' c ty fr (by rw [h] at hb; exact hb), fun R n hR => by
    obtain ⟨r1, r2, r3⟩ := hm.garb R n hR
    exact ⟨r1, r2, fun k hk => r3 k (by unfold liveMap at *; rw [h] at hk; exact hk)⟩⟩
  · intro g cs hg
    obtain ⟨h1, h2, c, ty, fr, h3, h4⟩ := hm.globs g cs hg
    exact ⟨h1, h2, c, ty, fr, h3, h4.ext he⟩
  · intro b cs gen rw' hb
    rw [h] at hb
    obtain ⟨h1, c, ty, fr, h2, h3, h4, h5⟩ := hm.cells b cs gen rw' hb
    exact ⟨h1, c, ty, fr, h2, h3, h4.ext he, h5⟩
  · intro b es ck hb
    rw [h] at hb
    obtain ⟨h1, es', h2, h3, h4⟩ := hm.maps b es ck hb
    exact ⟨h1, es', h2, h3, fun i e hi => let ⟨e', k1, k2, k3, k4⟩ := h4 i e hi; ⟨e', k1, VRel.ext he _ k2, VRel.ext he _ k3, k4⟩⟩
  · intro b b' hne h1 h2
    exact hm.inj b b' hne (by rw [h] at h1; unfold liveMap at *; rw [h] at h1; exact h1) (by rw [h] at h2; unfold liveMap at *; rw [h] at h2; exact h2)
  · intro b s p
    rw [h]
    exact hm.other b s p

theorem norefs_get {n : Nat} : ∀ {xs : List EV}, Ev.norefs n xs = true → ∀ (i : Nat) (x : EV), xs[i]? = some x → Ev.noref n x = true
  | [], _, i, x, h => by simp at h
  | y :: xs, hn, i, x, h => by
    simp only [Ev.norefs, Bool.and_eq_true] at hn
    cases i with
    | zero => simp at h; subst h; exact hn.1
    | succ i => exact norefs_get hn.2 i x (by simpa using h)

theorem RowIn.back (heq : ∀ b, b < m.bl.length → m'.bl[b]? = m.bl[b]?) {cs : List EV} {c0 c : Array Value} {d0 d : Nat} (h0 : RowIn j m cs c0 d0) (h : RowIn j' m' cs c d) : RowIn j' m cs c d :=
  ⟨h.1, fun i x hx => by
    obtain ⟨v0, _, r0⟩ := h0.2 i x hx
    obtain ⟨v, hv, r⟩ := h.2 i x hx
    exact ⟨v, hv, VRel.back heq x (VRel.noref x r0) r⟩⟩

/-- Memory as it was, in the machine as it is. -/
theorem MemRel.back (heq : ∀ b, b < m.bl.length → m'.bl[b]? = m.bl[b]?) (h0 : MemRel G base w0 j m w) (h : MemRel G base w0 j' m' w') : MemRel G base w0 j' m w' := by
  have inb : ∀ {b : Nat} {x : Blk}, m.bl[b]? = some x → m'.bl[b]? = some x := fun {b x} hb => by
    rw [heq b (List.getElem?_eq_some_iff.1 hb).1]; exact hb
  refine ⟨h.below, h.big, ?_, ?_, ?_, ?_, ?_, fun b cs gen rw' c ty fr hb => h.typed b cs gen rw' c ty fr (inb hb), fun R n hR => by
    obtain ⟨r1, r2, r3⟩ := h.garb R n hR
    refine ⟨r1, r2, fun k hk => r3 k ?_⟩
    rcases hk with ⟨cs, gen, rw', hk⟩ | ⟨es, c, hk⟩
    · exact .inl ⟨cs, gen, rw', inb hk⟩
    · exact .inr ⟨es, c, inb hk⟩⟩
  · intro g cs hg
    obtain ⟨_, _, c0, _, _, _, r0⟩ := h0.globs g cs hg
    obtain ⟨h1, h2, c, ty, fr, h3, h4⟩ := h.globs g cs hg
    exact ⟨h1, h2, c, ty, fr, h3, r0.back heq h4⟩
  · intro b cs gen rw' hb
    obtain ⟨_, c0, _, _, _, _, r0, _⟩ := h0.cells b cs gen rw' hb
    obtain ⟨h1, c, ty, fr, h2, h3, h4, h5⟩ := h.cells b cs gen rw' (inb hb)
    exact ⟨h1, c, ty, fr, h2, h3, r0.back heq h4, h5⟩
  · intro b es ck hb
    obtain ⟨_, es0, _, _, r0⟩ := h0.maps b es ck hb
    obtain ⟨h1, es', h2, h3, h4⟩ := h.maps b es ck (inb hb)
    exact ⟨h1, es', h2, h3, fun i e hi => by
      obtain ⟨_, _, q1, q2, _⟩ := r0 i e hi
      obtain ⟨e', k1, k2, k3, k4⟩ := h4 i e hi
      exact ⟨e', k1, VRel.back heq _ (VRel.noref _ q1) k2, VRel.back heq _ (VRel.noref _ q2) k3, k4⟩⟩
  · intro b b' hne h1 h2
    refine h.inj b b' hne ?_ ?_
    · rcases h1 with ⟨cs, gen, h1⟩ | ⟨es, c, h1⟩
      · exact .inl ⟨cs, gen, inb h1⟩
      · exact .inr ⟨es, c, inb h1⟩
    · rcases h2 with ⟨cs, gen, rw', h2⟩ | ⟨es, c, h2⟩
      · exact .inl ⟨cs, gen, rw', inb h2⟩
      · exact .inr ⟨es, c, inb h2⟩
  · intro b s p hb
    exact h.other b s p (inb hb)

theorem Ext.back (heq : ∀ b, b < m.bl.length → m'.bl[b]? = m.bl[b]?) (h : Ext j m j' m') : Ext j m j' m :=
  ⟨Nat.le_refl _, fun _ _ => Nat.le_refl _, fun b g hb hg hl => h.old b g hb hg ((live_back heq hb).2 hl), fun b hb hl => h.map b hb ((liveMap_back heq (genAt_lt hb)).2 hl), h.garb⟩

/-- What a call leaves. -/
theorem leave_sound (hk : Kept ⟨m.bl, m.bl.length⟩ m') (h0 : MemRel G base w0 j m w) (h : MemRel G base w0 j' m' w') (he : Ext j m j' m') {x : EV} {v : Value} (hv : VRel j' m' x v) :
    MemRel G base w0 j' (leaveE m x m') w' ∧ Ext j m j' (leaveE m x m') ∧ VRel j' (leaveE m x m') x v ∧ ∀ (y : EV) (u : Value), Ev.noref m.bl.length y = true → VRel j' m' y u → VRel j' (leaveE m x m') y u := by
  unfold leaveE
  split
  · rename_i hc
    obtain ⟨h1, h2, h3⟩ := hk (Nat.le_refl _)
    have heq : ∀ b, b < m.bl.length → m'.bl[b]? = m.bl[b]? := fun b hb => h3 b (Nat.lt_of_lt_of_le hb hc.1)
    exact ⟨h0.back heq h, he.back heq, VRel.back heq x hc.2 hv, fun y u hy hu => VRel.back heq y hy hu⟩
  · have e := Ext.low j' (m := m') (m' := ⟨m'.bl, min m.low m'.low⟩) rfl
    exact ⟨h.low rfl, he.trans e, VRel.ext e x hv, fun y u _ hu => VRel.ext e y hu⟩

end
end Go.Ev
