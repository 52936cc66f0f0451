/- The engine, part 98: regions that lay blocks of known content at any time ahead of the cut. There are no conditions but those that lateOk reckons, and that the program follows mixed orders. -/
import Derived.Test.YthmmoahdobpfoaaGreatDoorXEv97
set_option linter.unusedSectionVars false
set_option linter.unusedVariables false
set_option linter.unusedSimpArgs false
namespace Go.Ev
open Go.RowKit (Below)

section
variable {P : Program} {X : Fix} {call : CallE} {ops : Array Oper} {es : List EOper} {b : Nat → Nat → Bool} {q : Nat} {js : List Nat} {bs : List Blk} {rb : Nat} {fl : Nat → Bool} {f g : Nat → St} {Q : Exit → Act → World → Prop} {cs : List Frame}

theorem l_listed (C : LCtx P X call ops es b q js bs rb fl f g) {L : Array Bool} (hsz : L.size = ops.size) (hr : Region.ready .any ops L = []) : ∀ i, i < ops.size → L.getD i false = true := by
  intro i
  induction i using Nat.strongRecOn with
  | _ i ih =>
    intro hi
    cases hL : L.getD i false with
    | true => rfl
    | false =>
      exfalso
      have ho : ops[i]? = some ops[i] := Array.getElem?_eq_getElem hi
      have : i ∈ Region.ready .any ops L := by
        rw [mem_ready]
        refine ⟨?_, ops[i], ho, fun e he hb => ih e.on (C.hD.edges i _ ho e he hb) (by have := C.hD.edges i _ ho e he hb; omega)⟩
        have h1 : i < L.size := by rw [hsz]; exact hi
        simpa [h1] using hL
      rw [hr] at this
      cases this

theorem l_final (C : LCtx P X call ops es b q js bs rb fl f g) {L : Array Bool} {a : Act} {w : World} (hi : LInv X ops es q js bs rb fl f g b L a cs w) (hall : ∀ i, i < ops.size → L.getD i false = true) : ∃ j, SRel X j (g ops.size) a cs w := by
  obtain ⟨p, A, j, hpn, hp, hpq, hA1, hA2, hs⟩ := hi.rel
  have hq := C.hq
  have hfloat : ∀ k e, es[k]? = some e → p ≤ k → fl k = true := fun k e he h1 => by
    cases hf : fl k with
    | true => rfl
    | false =>
      have := (hp k e he hf).1 (hall k (C.lt he))
      omega
  have hA : A = lA q f g ops.size := by
    funext t
    obtain ⟨t1, t2⟩ := lA_text C ops.size (Nat.le_refl _) t
    by_cases hw : ∃ (i : Nat) (ei : EOper), es[i]? = some ei ∧ ei.dst = some t
    · obtain ⟨i, ei, hei, hd⟩ := hw
      have hin : i < ops.size := C.lt hei
      rw [hA1 t i ei hei (hall i hin) hd, t1 i ei hei hin hd]
    · have hno : ∀ (i : Nat) (ei : EOper), es[i]? = some ei → ei.dst ≠ some t := fun i ei hei hd => hw ⟨i, ei, hei, hd⟩
      rw [hA2 t fun i ei hei _ => hno i ei hei, t2 fun i ei hei _ => hno i ei hei]
  have hAg : A = (g ops.size).A := by
    rw [hA]
    unfold lA
    by_cases h : ops.size ≤ q
    · have : ops.size = q := by omega
      rw [if_pos h, this, C.gA]
    · rw [if_neg h]
  refine ⟨j, ?_⟩
  rcases Nat.lt_or_ge q p with h | h
  · have hSp : lS bs js rb q f g p (fun k => L.getD k false) = g p := by unfold lS; rw [if_neg (by omega)]
    rw [hSp] at hs
    obtain ⟨m1, m2⟩ := postMD C hpn (by omega) (Nat.le_refl _) fun k e he h1 h2 => hfloat k e he h1
    have : g ops.size = wA (g p) A := by
      show St.mk (g ops.size).A (g ops.size).m (g ops.size).d (g ops.size).p = St.mk A (g p).m (g p).d (g p).p
      rw [← hAg, m1, m2, C.gp _ (by omega) (Nat.le_refl _), C.gp p (by omega) hpn]
    rw [this]
    exact hs
  · have hSp : lS bs js rb q f g p (fun k => L.getD k false) = fillS (FLf bs js rb fun k => L.getD k false) (f p) := by unfold lS; rw [if_pos h]
    rw [hSp] at hs
    obtain ⟨m1, m2⟩ := preMD C h (Nat.le_refl _) fun k e he h1 h2 => hfloat k e he h1
    obtain ⟨m3, m4⟩ := postMD C (c := q) (d := ops.size) hq (Nat.le_refl _) (Nat.le_refl _) fun k e he h1 h2 => hfloat k e he (by omega)
    have hallj : ∀ c ∈ js, (fun k => L.getD k false) c = (fun _ => true) c := fun c hc => by
      obtain ⟨i, hi'⟩ := C.mem hc
      obtain ⟨hcq, _⟩ := C.late i c hi'
      exact hall c (by omega)
    rw [FL_congr hallj] at hs
    have hbl : (fill (FLf bs js rb fun _ => true) (f p).m).bl = (g ops.size).m.bl := by rw [← m1, m3, C.cut]
    have h3 := hs.step (Ext.low j (m := fill (FLf bs js rb fun _ => true) (f p).m) (m' := (g ops.size).m) hbl.symm) (hs.mem.low hbl.symm)
    have : g ops.size = { wA (fillS (FLf bs js rb fun _ => true) (f p)) A with m := (g ops.size).m } := by
      show St.mk (g ops.size).A (g ops.size).m (g ops.size).d (g ops.size).p = St.mk A (g ops.size).m (f p).d (f p).p
      rw [← hAg, m4, C.gd, m2, C.gp _ (by omega) (Nat.le_refl _), C.fp p h]
    rw [this]
    exact h3

theorem l_any (C : LCtx P X call ops es b q js bs rb fl f g) (hQ : ∀ j a w, SRel X j (g ops.size) a cs w → Q .normal a w) : ∀ (fuel : Nat) (L : Array Bool) (a : Act) (w : World), LInv X ops es q js bs rb fl f g b L a cs w → (List.range ops.size).countP (fun i => !L.getD i false) ≤ fuel → wpAny P .any ops Q fuel L a w := by
  have done : ∀ (L : Array Bool) (a : Act) (w : World), LInv X ops es q js bs rb fl f g b L a cs w → Region.ready .any ops L = [] → Q .normal a w := fun L a w hi hr => by
    obtain ⟨j, hj⟩ := l_final C hi (l_listed C hi.size hr)
    exact hQ j a w hj
  intro fuel
  induction fuel with
  | zero =>
    intro L a w hi hcnt
    have hr : Region.ready .any ops L = [] := by
      refine List.eq_nil_iff_forall_not_mem.2 fun k hk => ?_
      rw [mem_ready] at hk
      obtain ⟨hL, o, ho, _⟩ := hk
      have hkn : k < ops.size := (Array.getElem?_eq_some_iff.1 ho).1
      have h1 : k < L.size := by rw [hi.size]; exact hkn
      have hL' : L.getD k false = false := by simpa [h1] using hL
      have : (List.range ops.size).countP (fun i => !L.getD i false) = 0 := by omega
      rw [List.countP_eq_zero] at this
      have := this k (by simpa using hkn)
      rw [hL'] at this
      exact this rfl
    exact ⟨hr, done L a w hi hr⟩
  | succ fuel ih =>
    intro L a w hi hcnt
    refine ⟨done L a w hi, fun k hk => ?_⟩
    refine late_step C hi hk fun a' w' hi' => ih _ a' w' hi' ?_
    rw [mem_ready] at hk
    obtain ⟨hL, o, ho, _⟩ := hk
    have hkn : k < ops.size := (Array.getElem?_eq_some_iff.1 ho).1
    have h1 : k < L.size := by rw [hi.size]; exact hkn
    have hL' : L.getD k false = false := by simpa [h1] using hL
    have := count_lt (p := fun i => !L.getD i false) (q := fun i => !(L.setIfInBounds k true).getD i false) (fun x hx => by
      by_cases e : k = x
      · subst e; rw [getD_set_self h1] at hx; cases hx
      · rw [getD_set_ne false e] at hx; exact hx) (k := k) (by rw [hL']; rfl) (by rw [getD_set_self h1]; rfl) (List.range ops.size) (by simpa using hkn)
    omega
end

theorem cutC_le (ops : Array Oper) (l : List EOper) : cutC ops l ≤ ops.size := by
  unfold cutC
  simp only
  split
  · omega
  · exact Nat.le_refl _

theorem subL_get {rb : Nat} {js : List Nat} {es : List EOper} (k : Nat) : (subL rb js es)[k]? = (es[k]?).map fun o => match js.idxOf? k with
    | some i => (⟨o.dst, .mov (.con (lateV o.op (rb + i))), o.guard⟩ : EOper)
    | none => o := by
  unfold subL
  rw [List.getElem?_mapIdx]
  cases es[k]? with
  | none => rfl
  | some o =>
    simp only [Option.map_some]
    cases js.idxOf? k <;> rfl

theorem idxOf_nodup {js : List Nat} (hn : js.Nodup) {i k : Nat} (h : js[i]? = some k) : js.idxOf? k = some i := by
  cases hx : js.idxOf? k with
  | none =>
    rw [List.idxOf?_eq_none_iff] at hx
    exact absurd (List.mem_of_getElem? h) hx
  | some c =>
    rw [List.idxOf?_eq_some_iff] at hx
    obtain ⟨h1, h2, _⟩ := hx
    have h3 : js[c]? = some k := by rw [List.getElem?_eq_getElem h1, h2]
    rw [(List.getElem?_inj (List.getElem?_eq_some_iff.1 h).1 hn).1 (h.trans h3.symm)]

/-- A region whose order is drawn and that lays blocks of known content comes to what the text's order comes to. -/
theorem late_sound {P : Program} {X : Fix} {call : CallE} (hmix : P.follows .mixedOrders = true) (hc : CallsOk P X.G X.base X.w0 call) (hkc : KeptC call) (hfc : FillC call) {id : Nat} {ops : Array Oper} {es : List EOper} (hes : opersC P X.nt ops ops.toList = some es) {q : Nat} (hq : q ≤ ops.size) (hok : lateOk ops es q = true)
    {s s' : St} {ex : Ex} (h : regionL call X.G (latC ops es q) es (flagsL ops es q) q s = some (ex, s')) {j : Inj} {a : Act} {cs : List Frame} {w : World} (hs : SRel X j s a cs w) :
    (Code.region id ops true).wp P (fun e a w => XPost X ex s' e a cs w) a w := by
  have hlen : es.length = ops.size := by rw [(opersC_get hes).1]; simp
  have hD := lateOk_spec hok hlen
  obtain ⟨bs, s1, m1, s2, hp, hbs, h1, hlow, hm, h2, hr⟩ := regionL_spec h
  cases hr
  have hbl := lates_len hbs
  have hnd := latC_nodup ops es q
  have hsl : (subL s.m.bl.length (latC ops es q) es).length = ops.size := by simp [subL, hlen]
  obtain ⟨c1, c2, c3, c4, c5⟩ := commit_spec hm
  obtain ⟨f, f0, fn, fk⟩ := evD_states h1
  obtain ⟨g', g0, gn, gk⟩ := evD_states h2
  have hfn : (List.take q (subL s.m.bl.length (latC ops es q) es)).length = q := by rw [List.length_take, hsl]; omega
  rw [hfn] at fn
  have hgn : (List.drop q (subL s.m.bl.length (latC ops es q) es)).length = ops.size - q := by rw [List.length_drop, hsl]
  rw [hgn] at gn
  let g : Nat → St := fun k => g' (k - q)
  have hflag : ∀ (k : Nat) (e : EOper), es[k]? = some e → ∀ c, (flagsL ops es q)[k]? = some c → c = flagOfL ops es q k := fun k e he c hc => by
    simp only [flagOfL, List.getD, hc, Option.getD_some]
  have hpre : ∀ (k : Nat) (e : EOper), es[k]? = some e → k < q → ∃ o, (subL s.m.bl.length (latC ops es q) es)[k]? = some o ∧ stepD call X.G s.m.bl.length o (flagOfL ops es q k) (f k) = some (f (k + 1)) := fun k e he hk => by
    have hk' : k < (subL s.m.bl.length (latC ops es q) es).length := by rw [hsl, ← hlen]; exact (List.getElem?_eq_some_iff.1 he).1
    have ho := List.getElem?_eq_getElem hk'
    obtain ⟨c, hc1, hc2⟩ := fk k _ (by rw [List.getElem?_take_of_lt hk]; exact ho)
    rw [List.getElem?_take_of_lt hk] at hc1
    rw [hflag k e he c hc1] at hc2
    exact ⟨_, ho, hc2⟩
  have hpost : ∀ (k : Nat) (e : EOper), es[k]? = some e → q ≤ k → ∃ o, (subL s.m.bl.length (latC ops es q) es)[k]? = some o ∧ stepD call X.G s.m.bl.length o (flagOfL ops es q k) (g k) = some (g (k + 1)) := fun k e he hk => by
    have hk' : k < (subL s.m.bl.length (latC ops es q) es).length := by rw [hsl, ← hlen]; exact (List.getElem?_eq_some_iff.1 he).1
    have ho := List.getElem?_eq_getElem hk'
    obtain ⟨c, hc1, hc2⟩ := gk (k - q) _ (by rw [List.getElem?_drop, show q + (k - q) = k by omega]; exact ho)
    rw [List.getElem?_drop, show q + (k - q) = k by omega] at hc1
    rw [hflag k e he c hc1] at hc2
    refine ⟨_, ho, ?_⟩
    show stepD call X.G s.m.bl.length _ _ (g' (k - q)) = some (g' (k + 1 - q))
    rw [show k + 1 - q = k - q + 1 by omega]
    exact hc2
  have hsubN : ∀ (k : Nat) (e o : EOper), es[k]? = some e → (subL s.m.bl.length (latC ops es q) es)[k]? = some o → k ∉ latC ops es q → o = e := fun k e o he ho hk => by
    rw [subL_get, he, List.idxOf?_eq_none_iff.2 hk] at ho
    exact (Option.some.inj ho).symm
  have hsubL : ∀ (i k : Nat) (e o : EOper), es[k]? = some e → (subL s.m.bl.length (latC ops es q) es)[k]? = some o → (latC ops es q)[i]? = some k → o = ⟨e.dst, .mov (.con (lateV e.op (s.m.bl.length + i))), e.guard⟩ := fun i k e o he ho hk => by
    rw [subL_get, he, idxOf_nodup hnd hk] at ho
    exact (Option.some.inj ho).symm
  have hkept : ∀ c k, k + c = q → Kept (f k).m (f q).m := by
    intro c
    induction c with
    | zero => intro k hk'; have : k = q := by omega
              subst this; exact Kept.refl _
    | succ c ih =>
      intro k hk'
      obtain ⟨o, _, ho⟩ := hpre k es[k] (List.getElem?_eq_getElem (by omega)) (by omega)
      exact (stepD_kept hkc ho).trans (ih (k + 1) (by omega))
  have hkept0 : ∀ k, k ≤ q → Kept (f 0).m (f k).m := by
    intro k
    induction k with
    | zero => intro _; exact Kept.refl _
    | succ k ih =>
      intro hk'
      obtain ⟨o, _, ho⟩ := hpre k es[k] (List.getElem?_eq_getElem (by omega)) (by omega)
      exact (ih (by omega)).trans (stepD_kept hkc ho)
  have hlow0 : (f 0).m.low ≤ (f 0).m.bl.length := by rw [f0]; simp
  have hsame : ∀ k, k ≤ q → ∀ c, c < s.m.bl.length + bs.length → (f k).m.bl[c]? = (f 0).m.bl[c]? := by
    intro k hkq c hc'
    obtain ⟨k1, k2, k3⟩ := hkept0 k hkq hlow0
    obtain ⟨l1, l2, l3⟩ := hkept (q - k) k (by omega) k2
    rw [fn] at l1
    exact k3 c (by omega)
  have hfp : ∀ k, k ≤ q → (f k).p = none := by
    intro k
    induction k with
    | zero => intro _; rw [f0]; exact hp
    | succ k ih =>
      intro hk'
      obtain ⟨o, _, ho⟩ := hpre k es[k] (List.getElem?_eq_getElem (by omega)) (by omega)
      exact stepD_none ho (ih (by omega))
  have hgq : g q = { s1 with m := m1 } := by show g' (q - q) = _; rw [Nat.sub_self, g0]
  have hgp : ∀ c, q + c ≤ ops.size → (g (q + c)).p = none := by
    intro c
    induction c with
    | zero => intro _; rw [Nat.add_zero, hgq]; show s1.p = none; rw [← fn]; exact hfp q (Nat.le_refl _)
    | succ c ih =>
      intro hk'
      obtain ⟨o, _, ho⟩ := hpost (q + c) es[q + c] (List.getElem?_eq_getElem (by omega)) (by omega)
      exact stepD_none ho (ih (by omega))
  have C : LCtx P X call ops es (fun j i => ((Region.before ops).getD j 0).testBit i) q (latC ops es q) bs s.m.bl.length (flagOfL ops es q) f g := by
    refine ⟨hc, hfc, hes, hD, hq, hnd, fun i k hi => ?_, fun k e he hk hf => ?_, fun k e he hf => ?_, fun k e he hkq hk => ?_, fun i k e hi he => ?_, fun k e he hkq => ?_, by rw [hgq, fn], by rw [hgq, fn], hfp, fun k hqk hkn => ?_, ?_, fun k hk c hc => hsame k hk c (by omega), fun k hk i hi => ?_⟩
    · have hmem : k ∈ latC ops es q := List.mem_of_getElem? hi
      obtain ⟨hkq, e, x', he, hez, hgu, hop⟩ := latC_mem hmem
      obtain ⟨e2, x, he2, hx, hbx⟩ := lates_get hbs i k hi
      rw [he] at he2
      cases he2
      have hkn : k < ops.size := by omega
      refine ⟨hkq, by rw [flagOfL_eq he, List.contains_iff_mem.2 hmem, Bool.or_true], e, x, ops[k], he, hx, hgu, hbx, Array.getElem?_eq_getElem hkn, ?_⟩
      have : ops.getD k default = ops[k] := by simp [hkn]
      rw [← this]
      exact hop
    · have : flagOf ops es q k = true := by
        rw [flagOfL_eq he] at hf
        simpa [hk] using hf
      exact flagOf_floats he this
    · rw [flagOfL_eq he] at hf
      simp only [Bool.or_eq_false_iff] at hf
      refine ⟨fun hk => ?_, flag_calm he hf.1⟩
      have := List.contains_iff_mem.2 hk
      rw [hf.2] at this
      cases this
    · obtain ⟨o, ho1, ho2⟩ := hpre k e he hkq
      rw [hsubN k e o he ho1 hk] at ho2
      exact ho2
    · have hmem : k ∈ latC ops es q := List.mem_of_getElem? hi
      obtain ⟨hkq, e2, z, he2, hez, hgu, hop⟩ := latC_mem hmem
      rw [he] at he2
      cases he2
      obtain ⟨o, ho1, ho2⟩ := hpre k e he hkq
      have hof := hsubL i k e o he ho1 hi
      subst hof
      have hfl : flagOfL ops es q k = true := by rw [flagOfL_eq he, List.contains_iff_mem.2 hmem, Bool.or_true]
      rw [hfl] at ho2
      simp only [stepD, hgu, wantedE, if_true, floatOk, EOp.calm, evVal, opd, Option.map_some, Option.some.injEq] at ho2
      exact ho2.symm
    · obtain ⟨o, ho1, ho2⟩ := hpost k e he hkq
      have hk : k ∉ latC ops es q := fun hk => by have := (latC_mem hk).1; omega
      rw [hsubN k e o he ho1 hk] at ho2
      exact ho2
    · have := hgp (k - q) (by omega)
      rwa [show q + (k - q) = k by omega] at this
    · rw [hgq]
      show m1.bl = _
      rw [fn]
      apply List.ext_getElem?
      intro c
      rw [fill_get]
      by_cases hlo : c < s.m.bl.length
      · rw [c4 c (.inl hlo), FL_low hlo]
        cases s1.m.bl[c]? <;> rfl
      · by_cases hhi : s.m.bl.length + bs.length ≤ c
        · rw [c4 c (.inr hhi)]
          have : FLf bs (latC ops es q) s.m.bl.length (fun _ => true) c = none := by
            unfold FLf
            rw [if_pos (by omega), List.getElem?_eq_none (l := bs) (by omega)]
            cases (latC ops es q)[c - s.m.bl.length]? <;> rfl
          rw [this]
          cases s1.m.bl[c]? <;> rfl
        · have hci : c - s.m.bl.length < bs.length := by omega
          obtain ⟨q1, q2⟩ := c5 (c - s.m.bl.length) _ (List.getElem?_eq_getElem hci)
          rw [show s.m.bl.length + (c - s.m.bl.length) = c by omega] at q1 q2
          have hjc : c - s.m.bl.length < (latC ops es q).length := by omega
          have hat := FL_at (rb := s.m.bl.length) (L := fun _ => true) (List.getElem?_eq_getElem hjc) (List.getElem?_eq_getElem hci)
          rw [show s.m.bl.length + (c - s.m.bl.length) = c by omega] at hat
          rw [q2, q1, hat]
          rfl
    · rw [hsame k hk _ (by omega), f0]
      simp only
      rw [List.getElem?_append_right (by omega), List.getElem?_replicate, if_pos (by omega)]
  refine wp_region_any hmix (l_any (cs := cs) C (fun j' a' w' hs' => ?_) ops.size _ a _ ?_ ?_)
  · have : g ops.size = s2 := gn
    rw [this] at hs'
    exact ⟨j', hs'.step (Ext.low j' (m := s2.m) (m' := ⟨s2.m.bl, lowD s.m s2.m⟩) rfl) (hs'.mem.low rfl), trivial⟩
  · have hf : ∀ i, (Array.replicate ops.size false).getD i false = false := fun i => by simp [Array.getElem?_replicate]; split <;> rfl
    have hA0 : lA q f g 0 = s.A := by unfold lA; rw [if_pos (Nat.zero_le _), f0]
    refine ⟨by simp, fun i k _ _ hL => (by rw [hf] at hL; cases hL), 0, s.A, j, Nat.zero_le _, fun i e he _ => ?_, fun h0 => by omega, fun t i e he hL => (by rw [hf] at hL; cases hL), fun t _ => by rw [hA0], ?_⟩
    · rw [hf]; simp
    · have e1 := Ext.dead j s.m bs.length (s.m.bl.length + bs.length)
      have h1 := hs.step e1 (hs.mem.dead bs.length (s.m.bl.length + bs.length))
      have hfill : ∀ m : Mem, fill (FLf bs (latC ops es q) s.m.bl.length fun k => (Array.replicate ops.size false).getD k false) m = m := fun m => by
        have : FLf bs (latC ops es q) s.m.bl.length (fun k => (Array.replicate ops.size false).getD k false) = fun _ => none := by
          funext c
          unfold FLf
          split
          · split
            · simp only [hf]; rfl
            · rfl
          · rfl
        rw [this]
        cases m
        simp only [fill, Option.getD_none, Mem.mk.injEq, and_true]
        apply List.ext_getElem?
        intro c
        rw [List.getElem?_mapIdx]
        simp
      have : wA (lS bs (latC ops es q) s.m.bl.length q f g 0 fun k => (Array.replicate ops.size false).getD k false) s.A = { s with m := ⟨s.m.bl ++ List.replicate bs.length (.dead 0), s.m.bl.length + bs.length⟩ } := by
        unfold lS
        rw [if_pos (Nat.zero_le _)]
        show St.mk s.A (fill _ (f 0).m) (f 0).d (f 0).p = _
        rw [hfill, f0]
      rw [this]
      exact ⟨h1.fr, h1.mem.drew, h1.dfr, h1.pan, h1.ext⟩
  · have := List.countP_le_length (p := fun i => !(Array.replicate ops.size false).getD i false) (l := List.range ops.size)
    simpa using this
end Go.Ev
