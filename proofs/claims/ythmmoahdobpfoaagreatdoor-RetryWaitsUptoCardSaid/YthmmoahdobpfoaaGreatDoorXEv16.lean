/- The engine, part 16: regions whose order is drawn: every order comes to what the text's order comes to. There are no conditions but those that drawOk reckons. -/
import Derived.Test.YthmmoahdobpfoaaGreatDoorXEv12
import Derived.Orders
set_option linter.unusedSectionVars false
set_option linter.unusedVariables false
set_option linter.unusedSimpArgs false
namespace Go.Ev
open Go.RowKit (Below)

/-! ### What an operation does hangs on what it looks at alone -/
def Agree (l : List Opd) (A B : Fr) : Prop := ∀ x ∈ l, opd A x = opd B x

theorem Agree.map {l : List Opd} {A B : Fr} (h : Agree l A B) : l.map (opd A) = l.map (opd B) := List.map_congr_left h

theorem parts_agree {ps : List (Nat × Nat × Opd)} {A B : Fr} (h : Agree (ps.map (·.2.2)) A B) : parts A ps = parts B ps := by
  unfold parts
  refine List.map_congr_left fun p hp => ?_
  rw [h p.2.2 (List.mem_map.2 ⟨p, hp, rfl⟩)]

theorem bound_agree {o : Option Opd} {A B : Fr} (h : Agree (optL o) A B) (d : Nat) : bound A d o = bound B d o := by
  cases o with
  | none => rfl
  | some x => simp only [bound, h x (by simp [optL])]

theorem evVal_agree {G : Globs} {o : EOp} {A B : Fr} {m : Mem} (h : Agree o.opds A B) : evVal G o A m = evVal G o B m := by
  cases o <;> simp only [EOp.opds] at h <;> simp only [evVal]
  case mov x => rw [h x (by simp)]
  case pick c a b => rw [h c (by simp), h a (by simp), h b (by simp)]
  case box n x => rw [h x (by simp)]
  case build z ps => rw [parts_agree h]
  case mklit a b z ps => rw [parts_agree h]
  case load n a => rw [h a (by simp)]
  case store n a x => rw [h a (by simp), h x (by simp)]
  case nilchk x => rw [h x (by simp)]
  case bin op q x y => rw [h x (by simp), h y (by simp)]
  case isnil k n x => rw [h x (by simp)]
  case un op x => rw [h x (by simp)]
  case toInt k x => rw [h x (by simp)]
  case same x => rw [h x (by simp)]
  case toBytes x => rw [h x (by simp)]
  case toStr x => rw [h x (by simp)]
  case mkIface t x => rw [h x (by simp)]
  case mkFunc f cap => rw [Agree.map h]
  case mkSlice a b z l c => rw [h l (by simp), h c (by simp)]
  case slStr x lo hi =>
    have h1 : ∀ d, bound A d hi = bound B d hi := fun d => bound_agree (fun y hy => h y (by simp [hy])) d
    have h2 : ∀ d, bound A d lo = bound B d lo := fun d => bound_agree (fun y hy => h y (by simp [hy])) d
    simp only [h x (by simp), h1, h2]
  case sl e x lo hi =>
    have h1 : ∀ d, bound A d hi = bound B d hi := fun d => bound_agree (fun y hy => h y (by simp [hy])) d
    have h2 : ∀ d, bound A d lo = bound B d lo := fun d => bound_agree (fun y hy => h y (by simp [hy])) d
    simp only [h x (by simp), h1, h2]
  case slArr n e x lo hi => rw [h x (by simp), bound_agree (o := lo) (fun y hy => h y (by simp [hy])), bound_agree (o := hi) (fun y hy => h y (by simp [hy]))]
  case fldAddr off x => rw [h x (by simp)]
  case fld off n x => rw [h x (by simp)]
  case ixAddrArr a b x i => rw [h x (by simp), h i (by simp)]
  case ixAddr b x i => rw [h x (by simp), h i (by simp)]
  case ixArr a b n x i => rw [h x (by simp), h i (by simp)]
  case ixStr x i => rw [h x (by simp), h i (by simp)]
  case ext x i => rw [h x (by simp)]
  case lenStr x => rw [h x (by simp)]
  case lenSl x => rw [h x (by simp)]
  case capSl x => rw [h x (by simp)]
  case lenMap x => rw [h x (by simp)]
  case append a b c x y => rw [h x (by simp), h y (by simp)]
  case unsafeTo x => rw [h x (by simp)]
  case unsafeFrom g n x => rw [h x (by simp)]
  case ptrEq b x y => rw [h x (by simp), h y (by simp)]
  case sliceData x => rw [h x (by simp)]
  case unsafeStr g x y => rw [h x (by simp), h y (by simp)]
  case copy a x y => rw [h x (by simp), h y (by simp)]
  case clear z x => rw [h x (by simp)]
  case minmax b x y => rw [h x (by simp), h y (by simp)]
  case assert t z x ok => rw [h x (by simp)]
  case lookup q z x k ok => rw [h x (by simp), h k (by simp)]
  case mapSet q x k v => rw [h x (by simp), h k (by simp), h v (by simp)]
  case delete q x k => rw [h x (by simp), h k (by simp)]
  case toFlt k x => rw [h x (by simp)]
  case mark x => rw [h x (by simp)]
  case range x => rw [h x (by simp)]
  case next x => rw [h x (by simp)]
  case mkMapN x => rw [h x (by simp)]
  case fltInt k x => rw [h x (by simp)]

theorem evOp_agree {call : CallE} {G : Globs} {o : EOp} {s s' : St} {r : Res} {A : Fr} (h : Agree o.opds s.A A) (e : evOp call G o s = some (r, s')) : evOp call G o { s with A := A } = some (r, { s' with A := A }) := by
  by_cases hq : o.quiet = true
  · rw [evOp_quiet hq] at e ⊢
    obtain ⟨x, hx, hr⟩ := Option.map_eq_some_iff.1 e
    cases hr
    simp only [← evVal_agree h, hx, Option.map_some]
  · cases o <;> first | exact absurd rfl hq | skip
    · rename_i f args
      simp only [EOp.opds] at h
      simp only [evOp] at e ⊢
      rw [← h f (by simp), ← Agree.map (l := args) (A := s.A) (B := A) (fun x hx => h x (by simp [hx]))]
      split at e
      · split at e
        · cases e; simp only [*]
        · cases e
      · cases e
    · rename_i x
      simp only [EOp.opds] at h
      simp only [evOp] at e ⊢
      rw [← h x (by simp)]
      split at e
      · cases e; simp only [*]
      · cases e
    · simp only [evOp] at e ⊢
      split at e
      · cases e; simp only [*]
      · cases e; simp only [*]
      · cases e
    · rename_i f args
      simp only [EOp.opds] at h
      simp only [evOp] at e ⊢
      rw [← h f (by simp), ← Agree.map (l := args) (A := s.A) (B := A) (fun x hx => h x (by simp [hx]))]
      split at e
      · cases e; simp only [*]
      · cases e

theorem calm_free {G : Globs} {o : EOp} {A : Fr} {m : Mem} {r : EV × Mem} (hc : o.calm = true) (h : evVal G o A m = some r) : r.2 = m ∧ ∀ m2, evVal G o A m2 = some (r.1, m2) := by
  cases o <;> first | (simp [EOp.calm] at hc; done) | skip
  case isnil k n x =>
    simp only [evVal] at h ⊢
    obtain ⟨y, hy, rfl⟩ := Option.map_eq_some_iff.1 h
    exact ⟨rfl, fun m2 => by rw [hy]; rfl⟩
  all_goals simp only [evVal] at h ⊢
  all_goals (repeat' split at h)
  all_goals first
    | (cases h; done)
    | (cases h; exact ⟨rfl, fun m2 => rfl⟩)
    | (cases h; refine ⟨rfl, fun m2 => ?_⟩; rw [if_pos (by assumption)]; done)
    | (cases h; refine ⟨rfl, fun m2 => ?_⟩; rw [if_neg (by assumption), if_pos (by assumption)]; done)
    | (obtain ⟨x, hx, rfl⟩ := Option.map_eq_some_iff.1 h; refine ⟨rfl, fun m2 => ?_⟩; rw [hx]; rfl)
    | (obtain ⟨x, hx, rfl⟩ := Option.map_eq_some_iff.1 h; refine ⟨rfl, fun m2 => ?_⟩; rw [if_pos (by assumption), hx]; rfl)
    | (cases h; refine ⟨rfl, fun m2 => ?_⟩; simp only [*, if_true, if_false, Bool.false_eq_true, reduceIte]; done)

/-! ### The text's order, state by state -/
theorem evD_states {call : CallE} {G : Globs} {n0 : Nat} : ∀ {os : List EOper} {fl : List Bool} {s s' : St}, evD call G n0 os fl s = some s' →
    ∃ f : Nat → St, f 0 = s ∧ f os.length = s' ∧ ∀ (k : Nat) (o : EOper), os[k]? = some o → ∃ b, fl[k]? = some b ∧ stepD call G n0 o b (f k) = some (f (k + 1))
  | [], _, s, s', h => by
    simp only [evD] at h
    cases h
    exact ⟨fun _ => s, rfl, rfl, fun k o hk => by simp at hk⟩
  | o :: os, [], s, s', h => by simp [evD] at h
  | o :: os, b :: fl, s, s', h => by
    simp only [evD] at h
    split at h
    case h_2 => cases h
    rename_i s1 hs
    obtain ⟨f, h0, hn, hk⟩ := evD_states h
    refine ⟨fun k => match k with | 0 => s | k + 1 => f k, rfl, by simpa using hn, fun k o' hk' => ?_⟩
    cases k with
    | zero =>
      simp at hk'
      subst hk'
      exact ⟨b, rfl, by simp only [h0, hs]⟩
    | succ k => simpa using hk k o' (by simpa using hk')

theorem evD_cut {call : CallE} {G : Globs} {n0 : Nat} : ∀ (q : Nat) {os : List EOper} {fl : List Bool} {s s1 s' : St}, evD call G n0 (os.take q) (fl.take q) s = some s1 → evD call G n0 (os.drop q) (fl.drop q) s1 = some s' →
    ∃ f : Nat → St, f 0 = s ∧ f os.length = s' ∧ f (min q os.length) = s1 ∧ ∀ (k : Nat) (o : EOper), os[k]? = some o → ∃ b, fl[k]? = some b ∧ stepD call G n0 o b (f k) = some (f (k + 1))
  | 0, os, fl, s, s1, s', h1, h2 => by
    simp only [List.take_zero, evD] at h1
    cases h1
    obtain ⟨f, h0, hn, hk⟩ := evD_states (by simpa using h2)
    exact ⟨f, h0, hn, by simpa using h0, hk⟩
  | q + 1, [], fl, s, s1, s', h1, h2 => by
    simp only [List.take_nil, evD] at h1
    cases h1
    simp only [List.drop_nil, evD] at h2
    cases h2
    exact ⟨fun _ => s, rfl, rfl, rfl, fun k o hk => by simp at hk⟩
  | q + 1, o :: os, [], s, s1, s', h1, h2 => by simp [evD] at h1
  | q + 1, o :: os, b :: fl, s, s1, s', h1, h2 => by
    simp only [List.take_succ_cons, evD] at h1
    split at h1
    case h_2 => cases h1
    rename_i s2 hs
    obtain ⟨f, h0, hn, hm, hk⟩ := evD_cut q h1 (by simpa using h2)
    refine ⟨fun k => match k with | 0 => s | k + 1 => f k, rfl, by simpa using hn, ?_, fun k o' hk' => ?_⟩
    · rw [List.length_cons, show min (q + 1) (os.length + 1) = min q os.length + 1 by omega]
      exact hm
    · cases k with
      | zero =>
        simp at hk'
        subst hk'
        exact ⟨b, rfl, by simp only [h0, hs]⟩
      | succ k => simpa using hk k o' (by simpa using hk')

theorem evOp_A {call : CallE} {G : Globs} {o : EOp} {s : St} {r : Res × St} (h : evOp call G o s = some r) : r.2.A = s.A := by
  by_cases hq : o.quiet = true
  · rw [evOp_quiet hq] at h
    obtain ⟨x, hx, rfl⟩ := Option.map_eq_some_iff.1 h
    rfl
  · cases o <;> first | exact absurd rfl hq | skip
    all_goals
      simp only [evOp] at h
      repeat' split at h
      all_goals first | (cases h; rfl) | cases h

theorem stepD_A {call : CallE} {G : Globs} {n0 : Nat} {o : EOper} {b : Bool} {s s' : St} (h : stepD call G n0 o b s = some s') {t : Nat} (ht : o.dst ≠ some t) : s'.A t = s.A t := by
  have key : ∀ (s1 : St) (v : EV), s1.A = s.A → (s1.put o.dst v).A t = s.A t := by
    intro s1 v h1
    cases hd : o.dst with
    | none => simp only [St.put, h1]
    | some d =>
      have : t ≠ d := fun e => ht (by rw [hd, e])
      simp only [St.put, upd, this, if_false, h1]
  unfold stepD at h
  split at h
  · split at h
    · split at h
      · obtain ⟨r, hr, rfl⟩ := Option.map_eq_some_iff.1 h
        exact key _ _ rfl
      · cases h
    · split at h
      · rename_i v s1 hv
        cases h
        exact key _ _ (evOp_A hv)
      · cases h
  · cases h
    exact key _ _ rfl

/-- What a floating step leaves. -/
theorem stepD_float {call : CallE} {G : Globs} {n0 : Nat} {o : EOper} {s s' : St} (h : stepD call G n0 o true s = some s') : s'.m = s.m ∧ s'.d = s.d ∧ s'.p = s.p := by
  unfold stepD at h
  split at h
  · simp only [if_true] at h
    split at h
    · obtain ⟨r, hr, rfl⟩ := Option.map_eq_some_iff.1 h
      exact ⟨put_m _ _ _, put_d _ _ _, put_p _ _ _⟩
    · cases h
  · cases h
    exact ⟨put_m _ _ _, put_d _ _ _, put_p _ _ _⟩

/-! ### What drawOk says -/
/-- Which operations float. -/
def flagOf (ops : Array Oper) (es : List EOper) (q k : Nat) : Bool := (flagsC ops es q).getD k false

structure DrawSpec (ops : Array Oper) (es : List EOper) (b : Nat → Nat → Bool) (q : Nat) : Prop where
  edges : ∀ (j : Nat) (o : Oper), ops[j]? = some o → ∀ x ∈ o.after, Region.binds .any x = true → x.on < j
  clos : ∀ (j : Nat) (o : Oper) (i : Nat), ops[j]? = some o → i < ops.size → b j i = true → ∃ x ∈ o.after, Region.binds .any x = true ∧ (x.on = i ∨ b x.on i = true)
  dst : ∀ (i j : Nat) (ei ej : EOper), es[i]? = some ei → es[j]? = some ej → i ≠ j → ∀ d, ei.dst = some d → ej.dst ≠ some d
  reads : ∀ (i j : Nat) (ei ej : EOper), es[i]? = some ei → es[j]? = some ej → i ≠ j → ∀ t ∈ ej.reads, ei.dst = some t → (i < j → b j i = true) ∧ (j < i → b i j = true)
  anch : ∀ (i j : Nat) (ei ej : EOper), es[i]? = some ei → es[j]? = some ej → i < j → flagOf ops es q i = false → flagOf ops es q j = false → b j i = true
  tail : ∀ (i j : Nat) (ei ej : EOper), es[i]? = some ei → es[j]? = some ej → i < j → q ≤ j → ei.op.calm = false → ej.op.calm = false → b j i = true

theorem flagsC_get {ops : Array Oper} {es : List EOper} {q k : Nat} {e : EOper} (h : es[k]? = some e) : (flagsC ops es q)[k]? = some ((e.op.calm || (e.op.floats && decide (k < q))) && !pinC (Region.before ops) es k && !(extraC (Region.before ops) es q).contains k) := by
  have hk : k < es.length := (List.getElem?_eq_some_iff.1 h).1
  have hg : opAt es k = e.op := by simp [opAt, h]
  simp only [flagsC, List.getElem?_map, List.getElem?_range hk, Option.map_some, floatsC, hg]
theorem flagOf_eq {ops : Array Oper} {es : List EOper} {q k : Nat} {e : EOper} (h : es[k]? = some e) : flagOf ops es q k = ((e.op.calm || (e.op.floats && decide (k < q))) && !pinC (Region.before ops) es k && !(extraC (Region.before ops) es q).contains k) := by
  simp [flagOf, flagsC_get h]
theorem calm_floats {o : EOp} (h : o.calm = true) : o.floats = true := by
  cases o <;> first | rfl | exact h
theorem flagOf_floats {ops : Array Oper} {es : List EOper} {q k : Nat} {e : EOper} (h : es[k]? = some e) (hf : flagOf ops es q k = true) : e.op.floats = true ∧ (e.op.calm = false → k < q) := by
  rw [flagOf_eq h] at hf
  simp only [Bool.and_eq_true, Bool.or_eq_true, decide_eq_true_eq] at hf
  rcases hf.1.1 with hc | hc
  · exact ⟨calm_floats hc, fun h => by rw [hc] at h; cases h⟩
  · exact ⟨hc.1, fun _ => hc.2⟩
theorem extraC_pins {b : Array Nat} {l : List EOper} {q k : Nat} (h : (extraC b l q).contains k = true) : (opAt l k).pins = true := by
  unfold extraC at h
  split at h
  · generalize List.range (min q l.length) = ks at h
    induction ks with
    | nil => simp at h
    | cons x ks ih =>
      simp only [List.foldr_cons] at h
      split at h
      · rename_i hc
        rw [List.contains_cons] at h
        cases hx : k == x with
        | true =>
          have e : k = x := eq_of_beq hx
          subst e
          simp only [Bool.and_eq_true] at hc
          exact hc.1.1
        | false =>
          rw [hx] at h
          exact ih (by simpa using h)
      · exact ih h
  · simp at h
theorem flag_calm {ops : Array Oper} {es : List EOper} {q k : Nat} {e : EOper} (h : es[k]? = some e) (hf : flagOf ops es q k = false) : e.op.calm = false := by
  cases hc : e.op.calm with
  | false => rfl
  | true =>
    rw [flagOf_eq h, hc] at hf
    have hg : opAt es k = e.op := by simp [opAt, h]
    have h1 : e.op.pins = true := by
      cases hx : (extraC (Region.before ops) es q).contains k with
      | true =>
        rw [← hg]
        exact extraC_pins hx
      | false =>
        rw [hx] at hf
        simp only [Bool.true_or, Bool.true_and, Bool.not_false, Bool.and_true, Bool.not_eq_false'] at hf
        simp only [pinC, Bool.and_eq_true, hg] at hf
        exact hf.1
    cases hop : e.op <;> rw [hop] at h1 hc <;> first | (simp [EOp.pins] at h1; done) | (simp [EOp.calm] at hc; done)

theorem drawOk_spec {ops : Array Oper} {es : List EOper} {q : Nat} (h : drawOk ops es q = true) (hl : es.length = ops.size) : DrawSpec ops es (fun j i => ((Region.before ops).getD j 0).testBit i) q := by
  have key : ∀ j, j < ops.size → ((ops.getD j default).after.all (fun x => !Region.binds .any x || decide (x.on < j)) = true) ∧ ∀ i, i < ops.size →
      ((!((Region.before ops).getD j 0).testBit i || (ops.getD j default).after.any fun x => Region.binds .any x && (x.on == i || ((Region.before ops).getD x.on 0).testBit i)) = true) ∧
      ((i == j || (es.getD i ⟨none, .recover, none⟩).dst.isNone || (es.getD i ⟨none, .recover, none⟩).dst != (es.getD j ⟨none, .recover, none⟩).dst) = true) ∧
      ((i == j || !(es.getD j ⟨none, .recover, none⟩).reads.any (fun t => (es.getD i ⟨none, .recover, none⟩).dst == some t) || (if i < j then ((Region.before ops).getD j 0).testBit i else ((Region.before ops).getD i 0).testBit j)) = true) ∧
      ((!decide (i < j) || floatsC (Region.before ops) es q i || floatsC (Region.before ops) es q j || ((Region.before ops).getD j 0).testBit i) = true) ∧
      ((!decide (i < j) || decide (j < q) || (es.getD i ⟨none, .recover, none⟩).op.calm || (es.getD j ⟨none, .recover, none⟩).op.calm || ((Region.before ops).getD j 0).testBit i) = true) := by
    intro j hj
    unfold drawOk at h
    simp only [List.all_eq_true, List.mem_range] at h
    have := h j hj
    simp only [Bool.and_eq_true, List.all_eq_true, List.mem_range] at this
    refine ⟨this.1, fun i hi => ?_⟩
    have := this.2 i hi
    exact ⟨this.1.1.1.1, this.1.1.1.2, this.1.1.2, this.1.2, this.2⟩
  have hlt : ∀ {i : Nat} {e : EOper}, es[i]? = some e → i < ops.size := fun {i e} he => by rw [← hl]; exact (List.getElem?_eq_some_iff.1 he).1
  have hget : ∀ {i : Nat} {e : EOper}, es[i]? = some e → es.getD i ⟨none, .recover, none⟩ = e := fun {i e} he => by simp [he]
  have hop : ∀ {j : Nat} {o : Oper}, ops[j]? = some o → j < ops.size ∧ ops.getD j default = o := fun {j o} ho => by
    obtain ⟨h1, h2⟩ := Array.getElem?_eq_some_iff.1 ho
    exact ⟨h1, by simp [ho]⟩
  have tl : ∀ (i j : Nat) (ei ej : EOper), es[i]? = some ei → es[j]? = some ej → i < j → q ≤ j → ei.op.calm = false → ej.op.calm = false → ((Region.before ops).getD j 0).testBit i = true := by
    intro i j ei ej hi hj hij hq c1 c2
    have := ((key j (hlt hj)).2 i (hlt hi)).2.2.2.2
    rw [hget hi, hget hj, c1, c2] at this
    simpa [hij, Nat.not_lt.2 hq] using this
  refine ⟨?_, ?_, ?_, ?_, ?_, tl⟩
  · intro j o ho x hx hb
    obtain ⟨hj, e⟩ := hop ho
    have := (key j hj).1
    rw [e] at this
    have := Array.all_eq_true_iff_forall_mem.1 this x hx
    simpa [hb] using this
  · intro j o i ho hi hb
    obtain ⟨hj, e⟩ := hop ho
    have := ((key j hj).2 i hi).1
    rw [e, hb] at this
    simp only [Bool.not_true, Bool.false_or] at this
    rw [← Array.any_toList] at this
    obtain ⟨x, hx, h1⟩ := List.any_eq_true.1 this
    simp only [Bool.and_eq_true, Bool.or_eq_true, beq_iff_eq] at h1
    exact ⟨x, by simpa using hx, h1.1, h1.2⟩
  · intro i j ei ej hi hj hne d hd hd2
    have := ((key j (hlt hj)).2 i (hlt hi)).2.1
    rw [hget hi, hget hj, hd, hd2] at this
    simp [hne] at this
  · intro i j ei ej hi hj hne t ht hd
    have := ((key j (hlt hj)).2 i (hlt hi)).2.2.1
    rw [hget hi, hget hj] at this
    have h1 : (ej.reads.any fun t => ei.dst == some t) = true := List.any_eq_true.2 ⟨t, ht, by simp [hd]⟩
    rw [h1] at this
    have h2 : (i == j) = false := by simpa using hne
    rw [h2] at this
    simp only [Bool.not_true, Bool.or_false, Bool.false_or] at this
    refine ⟨fun hij => ?_, fun hij => ?_⟩
    · rw [if_pos hij] at this; exact this
    · rw [if_neg (by omega)] at this; exact this
  · intro i j ei ej hi hj hij h1 h2
    have hdraw := ((key j (hlt hj)).2 i (hlt hi)).2.2.2.1
    have e1 : floatsC (Region.before ops) es q i = false := by
      rw [flagOf_eq hi] at h1
      simp only [floatsC, show opAt es i = ei.op by simp [opAt, hi]]
      exact h1
    have e2 : floatsC (Region.before ops) es q j = false := by
      rw [flagOf_eq hj] at h2
      simp only [floatsC, show opAt es j = ej.op by simp [opAt, hj]]
      exact h2
    simpa [hij, e1, e2] using hdraw

theorem opersC_get {P : Program} {nt : Nat} {ops : Array Oper} : ∀ {l : List Oper} {es : List EOper}, opersC P nt ops l = some es → es.length = l.length ∧ ∀ (i : Nat) (o : Oper), l[i]? = some o → ∃ e, es[i]? = some e ∧ operC P nt ops o = some e
  | [], _, h => by simp only [opersC] at h; cases h; exact ⟨rfl, fun i o hi => by simp at hi⟩
  | o :: l, es, h => by
    simp only [opersC] at h
    split at h
    case h_2 => cases h
    rename_i e es' he hes
    cases h
    obtain ⟨h1, h2⟩ := opersC_get hes
    refine ⟨by simp [h1], fun i o' hi => ?_⟩
    cases i with
    | zero => simp at hi; subst hi; exact ⟨e, rfl, he⟩
    | succ i => simpa using h2 i o' (by simpa using hi)

theorem operC_spec {P : Program} {nt : Nat} {ops : Array Oper} {o : Oper} {e : EOper} (h : operC P nt ops o = some e) : some (opS P o.op) = some e.op ∧ guardC ops o.guard = some e.guard ∧ dstOk nt o.dst = true ∧ e.dst = o.dst := by
  unfold operC at h
  split at h
  case h_2 => cases h
  rename_i op g hop hg
  split at h
  case isFalse => cases h
  rename_i hd
  cases h
  exact ⟨hop, hg, hd, rfl⟩

end Go.Ev
