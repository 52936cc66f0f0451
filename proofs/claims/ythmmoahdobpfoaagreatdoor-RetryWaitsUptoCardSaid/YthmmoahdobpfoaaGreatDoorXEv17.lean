/- The engine, part 17: every order of a region whose order is drawn comes to what the text's order comes to. There are no conditions but those that drawOk reckons. -/
import Derived.Test.YthmmoahdobpfoaaGreatDoorXEv16
set_option linter.unusedSectionVars false
set_option linter.unusedVariables false
set_option linter.unusedSimpArgs false
namespace Go.Ev
open Go.RowKit (Below)

section
variable {P : Program} {X : Fix} {call : CallE} {ops : Array Oper} {es : List EOper} {b : Nat → Nat → Bool} {q n0 : Nat} {f : Nat → St}

/-- What is done so far. -/
structure DInv (X : Fix) (ops : Array Oper) (es : List EOper) (q : Nat) (f : Nat → St) (b : Nat → Nat → Bool) (L : Array Bool) (a : Act) (cs : List Frame) (w : World) : Prop where
  size : L.size = ops.size
  down : ∀ i k, i < ops.size → k < ops.size → L.getD k false = true → b k i = true → L.getD i false = true
  rel : ∃ (p : Nat) (A : Fr) (j : Inj), p ≤ ops.size ∧ (∀ i e, es[i]? = some e → flagOf ops es q i = false → (L.getD i false = true ↔ i < p)) ∧
    (∀ t i e, es[i]? = some e → L.getD i false = true → e.dst = some t → A t = (f (i + 1)).A t) ∧
    (∀ t, (∀ i e, es[i]? = some e → L.getD i false = true → e.dst ≠ some t) → A t = (f 0).A t) ∧
    SRel X j { f p with A := A } a cs w

variable (hst : ∀ (k : Nat) (o : EOper), es[k]? = some o → stepD call X.G n0 o (flagOf ops es q k) (f k) = some (f (k + 1))) (hlen : es.length = ops.size) (hD : DrawSpec ops es b q)
include hst hlen

theorem text_A (hD : DrawSpec ops es b q) : ∀ (k : Nat), k ≤ ops.size → ∀ t, (∀ i e, es[i]? = some e → i < k → e.dst = some t → (f k).A t = (f (i + 1)).A t) ∧ ((∀ i e, es[i]? = some e → i < k → e.dst ≠ some t) → (f k).A t = (f 0).A t)
  | 0, _, t => ⟨fun i e _ hi => by omega, fun _ => rfl⟩
  | k + 1, hk, t => by
    obtain ⟨h1, h2⟩ := text_A hD k (by omega) t
    have hke : ∃ e, es[k]? = some e := ⟨es[k], List.getElem?_eq_getElem (by omega)⟩
    obtain ⟨e, he⟩ := hke
    refine ⟨fun i ei hi hik hd => ?_, fun hno => ?_⟩
    · by_cases hik' : i = k
      · subst hik'; rfl
      · have hne : e.dst ≠ some t := hD.dst i k ei e hi he hik' t hd
        rw [stepD_A (hst k e he) hne]
        exact h1 i ei hi (by omega) hd
    · rw [stepD_A (hst k e he) (hno k e he (by omega))]
      exact h2 fun i ei hi hik => hno i ei hi (by omega)

theorem text_MD : ∀ (c d : Nat), c ≤ d → d ≤ ops.size → (∀ k e, es[k]? = some e → c ≤ k → k < d → flagOf ops es q k = true) → (f d).m = (f c).m ∧ (f d).d = (f c).d ∧ (f d).p = (f c).p
  | c, 0, h, _, _ => by
    have : c = 0 := by omega
    subst this
    exact ⟨rfl, rfl, rfl⟩
  | c, d + 1, h, hd, hf => by
    by_cases hc : c = d + 1
    · subst hc; exact ⟨rfl, rfl, rfl⟩
    · obtain ⟨h1, h2, h3⟩ := text_MD c d (by omega) (by omega) fun k e he h1 h2 => hf k e he h1 (by omega)
      have he : es[d]? = some es[d] := List.getElem?_eq_getElem (by omega)
      have hs := hst d _ he
      rw [hf d _ he (by omega) (by omega)] at hs
      obtain ⟨k1, k2, k3⟩ := stepD_float hs
      exact ⟨k1.trans h1, k2.trans h2, k3.trans h3⟩

/-- What an operation that may be done now looks at is as in the text's order. -/
theorem ready_agree (hD : DrawSpec ops es b q) {L : Array Bool} {A : Fr} (hsz : L.size = ops.size)
    (hdown : ∀ i k, i < ops.size → k < ops.size → L.getD k false = true → b k i = true → L.getD i false = true)
    (hA1 : ∀ t i e, es[i]? = some e → L.getD i false = true → e.dst = some t → A t = (f (i + 1)).A t)
    (hA2 : ∀ t, (∀ i e, es[i]? = some e → L.getD i false = true → e.dst ≠ some t) → A t = (f 0).A t)
    {k : Nat} {e : EOper} (he : es[k]? = some e) (hk : L.getD k false = false) (hb : ∀ i, i < ops.size → b k i = true → L.getD i false = true) {t : Nat} (ht : t ∈ e.reads) : (f k).A t = A t := by
  have hkn : k < ops.size := by rw [← hlen]; exact (List.getElem?_eq_some_iff.1 he).1
  obtain ⟨t1, t2⟩ := text_A hst hlen hD k (by omega) t
  by_cases hw : ∃ (i : Nat) (ei : EOper), es[i]? = some ei ∧ ei.dst = some t
  · obtain ⟨i, ei, hi, hd⟩ := hw
    have hin : i < ops.size := by rw [← hlen]; exact (List.getElem?_eq_some_iff.1 hi).1
    have huniq : ∀ (i' : Nat) (e' : EOper), es[i']? = some e' → e'.dst = some t → i' = i := fun i' e' hi' hd' => by
      by_cases h : i' = i
      · exact h
      · exact absurd hd (hD.dst i' i e' ei hi' hi h t hd')
    have none : L.getD i false = false → (f k).A t = (f 0).A t → (f k).A t = A t := fun hL hf => by
      rw [hf]
      refine (hA2 t fun i' e' hi' hL' hd' => ?_).symm
      rw [huniq i' e' hi' hd'] at hL'
      rw [hL] at hL'
      cases hL'
    rcases Nat.lt_trichotomy i k with h | h | h
    · have hbi := (hD.reads i k ei e hi he (by omega) t ht hd).1 h
      rw [t1 i ei hi h hd, hA1 t i ei hi (hb i hin hbi) hd]
    · subst h
      exact none hk (t2 fun i' e' hi' hlt hd' => by have := huniq i' e' hi' hd'; omega)
    · have hbi := (hD.reads i k ei e hi he (by omega) t ht hd).2 h
      refine none ?_ (t2 fun i' e' hi' hlt hd' => by have := huniq i' e' hi' hd'; omega)
      cases hL : L.getD i false with
      | false => rfl
      | true =>
        have := hdown k i hkn hin hL hbi
        rw [hk] at this
        cases this
  · have hno : ∀ (i : Nat) (ei : EOper), es[i]? = some ei → ei.dst ≠ some t := fun i ei hi hd => hw ⟨i, ei, hi, hd⟩
    rw [t2 fun i ei hi _ => hno i ei hi, hA2 t fun i ei hi _ => hno i ei hi]

end

theorem agree_of_reads {e : EOper} {A B : Fr} (h : ∀ t ∈ e.reads, A t = B t) : Agree e.op.opds A B ∧ wantedE A e.guard = wantedE B e.guard := by
  refine ⟨fun x hx => ?_, ?_⟩
  · cases x with
    | tmp t => exact h t (by unfold EOper.reads; exact List.mem_append_right _ (List.mem_flatMap.2 ⟨_, hx, by simp [opdTmp]⟩))
    | _ => rfl
  · cases hg : e.guard with
    | none => rfl
    | some q =>
      obtain ⟨d, want⟩ := q
      have := h d (by unfold EOper.reads; rw [hg]; simp)
      simp only [wantedE, this]

theorem getD_set_self {L : Array Bool} {k : Nat} (h : k < L.size) : (L.setIfInBounds k true).getD k false = true := by simp [h]

section
variable {P : Program} {X : Fix} {call : CallE} {ops : Array Oper} {es : List EOper} {b : Nat → Nat → Bool} {q : Nat} {f : Nat → St} {Q : Exit → Act → World → Prop} {cs : List Frame}

/-- One operation more is done. -/
theorem DInv.more (hD : DrawSpec ops es b q) (hlen : es.length = ops.size) {L : Array Bool} {a : Act} {w : World} (hi : DInv X ops es q f b L a cs w) {k : Nat} {e : EOper} (he : es[k]? = some e) (hk : L.getD k false = false) (hb : ∀ i, i < ops.size → b k i = true → L.getD i false = true)
    {p p' : Nat} {A : Fr} {a' : Act} {w' : World} {j' : Inj}
    (hp : (∀ i e, es[i]? = some e → flagOf ops es q i = false → (L.getD i false = true ↔ i < p)))
    (hA1 : ∀ t i e, es[i]? = some e → L.getD i false = true → e.dst = some t → A t = (f (i + 1)).A t)
    (hA2 : ∀ t, (∀ i e, es[i]? = some e → L.getD i false = true → e.dst ≠ some t) → A t = (f 0).A t)
    (hp' : p' = if flagOf ops es q k = true then p else k + 1) (hpn : p ≤ ops.size) {A' : Fr} (hA' : ∀ t, A' t = if e.dst = some t then (f (k + 1)).A t else A t) (hs : SRel X j' { f p' with A := A' } a' cs w') :
    DInv X ops es q f b (L.setIfInBounds k true) a' cs w' := by
  have hkn : k < ops.size := by rw [← hlen]; exact (List.getElem?_eq_some_iff.1 he).1
  have hset : ∀ i, (L.setIfInBounds k true).getD i false = true ↔ L.getD i false = true ∨ i = k := fun i => by
    by_cases h : k = i
    · subst h
      simp only [getD_set_self (by rw [hi.size]; exact hkn), or_true]
    · rw [getD_set_ne false h]
      exact ⟨.inl, fun h' => h'.resolve_right (fun e => h e.symm)⟩
  refine ⟨by simp [hi.size], fun i c hin hcn hL hbb => ?_, p', A', j', ?_, ?_, ?_, ?_, hs⟩
  · rw [hset] at hL ⊢
    rcases hL with hL | rfl
    · exact .inl (hi.down i c hin hcn hL hbb)
    · exact .inl (hb i hin hbb)
  · rw [hp']; split
    · exact hpn
    · omega
  · intro i ei hei hfl
    rw [hset]
    by_cases hf : flagOf ops es q k = true
    · rw [hp', if_pos hf, ← hp i ei hei hfl]
      refine ⟨fun h => h.resolve_right fun h' => ?_, .inl⟩
      subst h'
      rw [he] at hei
      cases hei
      rw [hf] at hfl
      cases hfl
    · have hf' : flagOf ops es q k = false := by simpa using hf
      rw [hp', if_neg hf]
      constructor
      · rintro (h | h)
        · rcases Nat.lt_trichotomy i k with qq | qq | qq
          · omega
          · omega
          · have := hD.anch k i e ei he hei qq hf' hfl
            have := hi.down k i hkn (by rw [← hlen]; exact (List.getElem?_eq_some_iff.1 hei).1) h this
            rw [hk] at this
            cases this
        · omega
      · intro h
        by_cases qq : i = k
        · exact .inr qq
        · exact .inl (hb i (by omega) (hD.anch i k ei e hei he (by omega) hfl hf'))
  · intro t i ei hei hL hd
    rw [hset] at hL
    rw [hA' t]
    by_cases qq : i = k
    · subst qq
      rw [he] at hei
      cases hei
      rw [if_pos hd]
    · rw [if_neg (hD.dst i k ei e hei he qq t hd)]
      exact hA1 t i ei hei (hL.resolve_right qq) hd
  · intro t hno
    rw [hA' t, if_neg (hno k e he ((hset k).2 (.inr rfl)))]
    exact hA2 t fun i ei hei hL => hno i ei hei ((hset i).2 (.inl hL))

theorem upd_match {A B : Fr} {dst : Option Nat} {v : EV} {s : St} (hA : B = (s.put dst v).A) (t : Nat) : (match dst with | some d => upd A d v | none => A) t = if dst = some t then B t else A t := by
  subst hA
  cases dst with
  | none => simp
  | some d =>
    by_cases h : t = d
    · subst h; simp [upd, St.put]
    · have : ¬ (some d = some t) := fun e => h (Option.some.inj e).symm
      simp [upd, h, this]

theorem put_struct (s : St) (dst : Option Nat) (v : EV) (A : Fr) : ({ s with A := A } : St).put dst v = { s with A := match dst with | some d => upd A d v | none => A } := by
  cases dst <;> rfl

theorem step_inv (hc : CallsOk P X.G X.base X.w0 call) (hes : opersC P X.nt ops ops.toList = some es) (hD : DrawSpec ops es b q) {n0 : Nat}
    (hst : ∀ (k : Nat) (o : EOper), es[k]? = some o → stepD call X.G n0 o (flagOf ops es q k) (f k) = some (f (k + 1)))
    (hold : ∀ k, k ≤ q → k ≤ ops.size → ∀ c, c < n0 → (f k).m.bl[c]? = (f 0).m.bl[c]?) (hpn : ∀ k, (f k).p = none)
    {L : Array Bool} {a : Act} {w : World} (hi : DInv X ops es q f b L a cs w) {k : Nat} {K : Act → World → Prop} (hready : k ∈ Region.ready .any ops L)
    (hK : ∀ a w, DInv X ops es q f b (L.setIfInBounds k true) a cs w → K a w) : wpOp P ops Q k K a w := by
  obtain ⟨hlen, hget⟩ := opersC_get hes
  have hlen : es.length = ops.size := by rw [hlen]; simp
  rw [mem_ready] at hready
  obtain ⟨hLk, o, ho, hedge⟩ := hready
  obtain ⟨e, he, hoe⟩ := hget k o (by simpa using ho)
  obtain ⟨hop, hg, hdst, hde⟩ := operC_spec hoe
  have hkn : k < ops.size := (Array.getElem?_eq_some_iff.1 ho).1
  have hLk : L.getD k false = false := by
    have h1 : k < L.size := by rw [hi.size]; exact hkn
    simpa [h1] using hLk
  have hb : ∀ i, i < ops.size → b k i = true → L.getD i false = true := fun i hin hbi => by
    obtain ⟨x, hx, hbx, h⟩ := hD.clos k o i ho hin hbi
    have hxL := hedge x hx hbx
    rcases h with rfl | h
    · exact hxL
    · exact hi.down i x.on hin (by have := hD.edges k o ho x hx hbx; omega) hxL h
  obtain ⟨p, A, j, hpn', hp, hA1, hA2, hs⟩ := hi.rel
  have hag := agree_of_reads (e := e) (A := (f k).A) (B := A) fun t ht => ready_agree hst hlen hD hi.size hi.down hA1 hA2 he hLk hb ht
  have hstep := hst k e he
  -- where an anchor stands
  have hanchor : flagOf ops es q k = false → (f k).m = (f p).m ∧ (f k).d = (f p).d ∧ (f k).p = (f p).p := fun hf => by
    have hpk : p ≤ k := by
      rcases Nat.lt_or_ge k p with h | h
      · have := (hp k e he hf).2 h
        rw [hLk] at this
        cases this
      · exact h
    refine text_MD hst hlen p k hpk (by omega) fun i ei hei h1 h2 => ?_
    cases hfi : flagOf ops es q i with
    | true => rfl
    | false =>
      have := hb i (by omega) (hD.anch i k ei e hei he h2 hfi hf)
      have := (hp i ei hei hfi).1 this
      omega
  have fin : ∀ (v : EV) (s1 : St) (a' : Act) (w' : World) (j' : Inj) (v' : Value), f (k + 1) = s1.put e.dst v → s1.A = (f k).A →
      (flagOf ops es q k = true → s1.m = (f k).m ∧ SRel X j' { f p with A := A } a' cs w' ∧ VRel j' (f p).m v v') → (flagOf ops es q k = false → SRel X j' { s1 with A := A } a' cs w' ∧ VRel j' s1.m v v') → K (a'.put o.dst v') w' := by
    intro v s1 a' w' j' v' h1 h2 h3 h4
    apply hK
    refine hi.more hD hlen he hLk hb hp hA1 hA2 rfl hpn' (A' := match e.dst with | some d => upd A d v | none => A) (j' := j') (fun t => upd_match (s := s1) (by rw [h1]) t) ?_
    by_cases hf : flagOf ops es q k = true
    · obtain ⟨k1, k2, k3⟩ := h3 hf
      rw [if_pos hf, ← put_struct, hde]
      exact k2.put hdst k3
    · have hf' : flagOf ops es q k = false := by simpa using hf
      obtain ⟨k2, k3⟩ := h4 hf'
      rw [if_neg hf]
      have e1 : ({ f (k + 1) with A := match e.dst with | some d => upd A d v | none => A } : St) = ({ s1 with A := A } : St).put e.dst v := by
        rw [put_struct, h1]
        cases e.dst <;> rfl
      rw [e1, hde]
      exact k2.put hdst k3
  unfold wpOp
  rw [ho]
  simp only
  rw [wanted_rel hs.fr hg, ← hag.2]
  unfold stepD at hstep
  split
  · rename_i hw
    rw [if_pos hw] at hstep
    left
    unfold Oper.wp
    by_cases hf : flagOf ops es q k = true
    · rw [if_pos hf] at hstep
      split at hstep
      case isFalse => cases hstep
      rename_i hfok
      obtain ⟨r, hr, hr'⟩ := Option.map_eq_some_iff.1 hstep
      -- the same answer at the memory that is
      have hval : evVal X.G e.op A (f p).m = some (r.1, (f p).m) := by
        rw [← evVal_agree hag.1]
        have hrows : ∀ ad : Ad, e.op.calm = false → oldAd n0 ad = true → (f k).m.row X.G ad.base = (f p).m.row X.G ad.base := by
          intro ad hnc hfok
          have hkq : k < q := (flagOf_floats he hf).2 hnc
          have hmp : ∃ p', p' ≤ q ∧ p' ≤ ops.size ∧ (f p).m = (f p').m := by
            rcases Nat.lt_or_ge q p with h | h
            · refine ⟨q, Nat.le_refl _, by omega, (text_MD hst hlen q p (by omega) hpn' fun i ei hei h1 h2 => ?_).1⟩
              cases hfi : flagOf ops es q i with
              | true => rfl
              | false =>
                exfalso
                have hLi := (hp i ei hei hfi).2 h2
                have h2 := hi.down k i hkn (by rw [← hlen]; exact (List.getElem?_eq_some_iff.1 hei).1) hLi (hD.tail k i e ei he hei (by omega) h1 hnc (flag_calm hei hfi))
                rw [hLk] at h2
                cases h2
            · exact ⟨p, h, hpn', rfl⟩
          obtain ⟨p', hp1, hp2, hpe⟩ := hmp
          rw [hpe]
          unfold oldAd at hfok
          unfold Mem.row
          cases hbase : ad.base with
          | glob g => rfl
          | weak wk => rfl
          | mem bb g =>
            rw [hbase] at hfok
            simp only [decide_eq_true_eq] at hfok
            simp only [hold k (by omega) (by omega) bb hfok, hold p' hp1 hp2 bb hfok]
        by_cases hcalm : e.op.calm = true
        · exact (calm_free hcalm hr).2 _
        · have hnc : e.op.calm = false := by simpa using hcalm
          cases hop2 : e.op with
          | load n x =>
            rw [hop2] at hr hfok
            simp only [floatOk] at hfok
            simp only [evVal] at hr ⊢
            split at hr
            case h_2 => cases hr
            rename_i ad had
            rw [had] at hfok
            simp only at hfok
            have hrow := hrows ad hnc hfok
            cases n with
            | none =>
              simp only [Mem.get] at hr ⊢
              obtain ⟨y, hy, rfl⟩ := Option.map_eq_some_iff.1 hr
              rw [hrow] at hy
              rw [hy]
              rfl
            | some n =>
              obtain ⟨y, hy, rfl⟩ := Option.map_eq_some_iff.1 hr
              have hy' : Mem.getN X.G (f p).m ad n = some y := by
                unfold Mem.getN at hy ⊢
                rw [← hrow]
                exact hy
              simp only [hy', Option.map_some]
          | toStr x =>
            rw [hop2] at hr hfok
            simp only [floatOk] at hfok
            simp only [evVal] at hr ⊢
            split at hr
            · cases hr; rfl
            · rename_i ad n _ _ had
              rw [had] at hfok
              simp only at hfok
              have hrow := hrows ad hnc hfok
              obtain ⟨y, hy, rfl⟩ := Option.map_eq_some_iff.1 hr
              have hy' : (Mem.getN X.G (f p).m ad n).bind strE = some y := by
                unfold Mem.getN at hy ⊢
                rw [← hrow]
                exact hy
              simp only [hy', Option.map_some]
            · cases hr
          | slArr n esz x lo hi =>
            rw [hop2] at hr hfok
            simp only [floatOk] at hfok
            simp only [evVal] at hr ⊢
            split at hr
            case h_2 => cases hr
            rename_i ad had
            rw [had] at hfok
            simp only at hfok
            have hrow := hrows ad hnc hfok
            rw [hrow] at hr
            split at hr
            case h_2 => cases hr
            rename_i h hh
            split at hr
            case h_2 => cases hr
            rename_i l hl
            split at hr
            case h_2 => cases hr
            rename_i cs hcs
            split at hr
            case isFalse => cases hr
            rename_i hb
            cases hr
            simp only [hh, hl, hcs, if_pos hb]
          | _ => have hf2 := (flagOf_floats he hf).1; rw [hop2] at hf2 hcalm; exact absurd hf2 (by simpa [EOp.floats] using hcalm)
      have hquiet : e.op.quiet = true := by
        have hf2 := (flagOf_floats he hf).1
        cases hop2 : e.op <;> rw [hop2] at hf2 <;> first | rfl | (simp [EOp.floats, EOp.calm] at hf2; done)
      have hev : evOp call X.G e.op { f p with A := A } = some (.val r.1, { f p with A := A }) := by
        rw [evOp_quiet hquiet]
        simp only [hval, Option.map_some]
      rcases op_sound hc hs hop hev with ⟨_, v, w', j', hrun, hs1, hv⟩ | ⟨_, d, hrun, hx, hs1⟩ | ⟨_, g, args, hrun, hcall⟩ | ⟨hp', _⟩
      · have hk := fin r.1 (f k) a w' j' v hr'.symm rfl (fun _ => ⟨rfl, hs1, hv⟩) (fun h => by rw [hf] at h; cases h)
        rcases hrun with hrun | ⟨hrun, rfl⟩
        · rw [hrun]; exact hk
        · rw [hrun]; exact hk
      · rw [hrun]
        have hk := fin r.1 (f k) _ w j undef hr'.symm rfl (fun _ => ⟨rfl, hs1, by rw [hx]; exact undef_rel _ _⟩) (fun h => by rw [hf] at h; cases h)
        exact hk
      · rw [hrun]
        refine hcall.mono fun en w' hen => ?_
        obtain ⟨v, j', rfl, hs1, hv⟩ := hen
        exact fin r.1 (f k) a w' j' v hr'.symm rfl (fun _ => ⟨rfl, hs1, hv⟩) (fun h => by rw [hf] at h; cases h)
      · rw [show ({ f p with A := A } : St).p = (f p).p from rfl, hpn p] at hp'
        cases hp'
    · rw [if_neg hf] at hstep
      have hf' : flagOf ops es q k = false := by simpa using hf
      split at hstep
      case h_2 => cases hstep
      rename_i v s1 hv
      have hfk : f (k + 1) = s1.put e.dst v := (Option.some.inj hstep).symm
      obtain ⟨m1, m2, m3⟩ := hanchor hf'
      have hsame : ({ f k with A := A } : St) = { f p with A := A } := by
        show St.mk A (f k).m (f k).d (f k).p = St.mk A (f p).m (f p).d (f p).p
        rw [m1, m2, m3]
      have hev := evOp_agree hag.1 hv
      rw [hsame] at hev
      have hs1A : s1.A = (f k).A := evOp_A hv
      rcases op_sound hc hs hop hev with ⟨_, v', w', j', hrun, hs1, hvr⟩ | ⟨_, d, hrun, hx, hs1⟩ | ⟨_, g, args, hrun, hcall⟩ | ⟨hp', _⟩
      · have hk := fin v s1 a w' j' v' hfk hs1A (fun h => absurd h hf) (fun _ => ⟨hs1, hvr⟩)
        rcases hrun with hrun | ⟨hrun, rfl⟩
        · rw [hrun]; exact hk
        · rw [hrun]; exact hk
      · rw [hrun]
        exact fin v s1 _ w j undef hfk hs1A (fun h => absurd h hf) (fun _ => ⟨hs1, by rw [hx]; exact undef_rel _ _⟩)
      · rw [hrun]
        refine hcall.mono fun en w' hen => ?_
        obtain ⟨v', j', rfl, hs1, hvr⟩ := hen
        exact fin v s1 a w' j' v' hfk hs1A (fun h => absurd h hf) (fun _ => ⟨hs1, hvr⟩)
      · rw [show ({ f p with A := A } : St).p = (f p).p from rfl, hpn p] at hp'
        cases hp'
  · rename_i hw
    rw [if_neg hw] at hstep
    have hstep : f (k + 1) = (f k).put e.dst undefE := by simpa using hstep.symm
    refine fin undefE (f k) a w j undef hstep rfl (fun _ => ⟨rfl, hs, undef_rel _ _⟩) fun hf => ?_
    obtain ⟨m1, m2, m3⟩ := hanchor hf
    have hsame : ({ f k with A := A } : St) = { f p with A := A } := by
      show St.mk A (f k).m (f k).d (f k).p = St.mk A (f p).m (f p).d (f p).p
      rw [m1, m2, m3]
    rw [hsame]
    exact ⟨hs, undef_rel _ _⟩

end
end Go.Ev
