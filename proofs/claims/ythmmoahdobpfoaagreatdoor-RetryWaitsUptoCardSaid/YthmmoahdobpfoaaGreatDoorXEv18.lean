/- The engine, part 18: regions whose order is drawn. There are no conditions but those that drawOk reckons, and that the program follows mixed orders. -/
import Derived.Test.YthmmoahdobpfoaaGreatDoorXEv17
set_option linter.unusedSectionVars false
set_option linter.unusedVariables false
set_option linter.unusedSimpArgs false
namespace Go.Ev
open Go.RowKit (Below)

theorem count_le {p q : Nat → Bool} (h : ∀ x, q x = true → p x = true) : ∀ (l : List Nat), l.countP q ≤ l.countP p
  | [] => by simp
  | x :: l => by
    have := count_le h l
    simp only [List.countP_cons]
    cases hq : q x with
    | false => simp; omega
    | true => simp [h x hq]; exact this

theorem count_lt {p q : Nat → Bool} (h : ∀ x, q x = true → p x = true) {k : Nat} (h1 : p k = true) (h2 : q k = false) : ∀ (l : List Nat), k ∈ l → l.countP q < l.countP p
  | [], hk => by simp at hk
  | x :: l, hk => by
    simp only [List.countP_cons]
    by_cases e : x = k
    · subst e
      have := count_le h l
      simp [h1, h2]
      omega
    · have := count_lt h h1 h2 l (by simpa [Ne.symm e] using hk)
      cases hq : q x with
      | false => simp; omega
      | true => simp [h x hq]; exact this

theorem evOp_none {c : CallE} {G : Globs} {o : EOp} {s : St} {r : Res × St} (h : evOp c G o s = some r) (hp : s.p = none) : r.2.p = none := by
  by_cases hq : o.quiet = true
  · rw [evOp_quiet hq] at h
    obtain ⟨x, hx, rfl⟩ := Option.map_eq_some_iff.1 h
    exact hp
  · cases o <;> first | exact absurd rfl hq | skip
    all_goals
      simp only [evOp] at h
      repeat' split at h
      all_goals first | (cases h; exact hp) | (cases h; rename_i e _; rw [hp] at e; cases e) | (cases h; done) | (rename_i e; rw [hp] at e; cases e)

theorem stepD_none {call : CallE} {G : Globs} {n0 : Nat} {o : EOper} {b : Bool} {s s' : St} (h : stepD call G n0 o b s = some s') (hp : s.p = none) : s'.p = none := by
  unfold stepD at h
  split at h
  · split at h
    · split at h
      · obtain ⟨r, hr, rfl⟩ := Option.map_eq_some_iff.1 h
        rw [put_p]; exact hp
      · cases h
    · split at h
      · rename_i v s1 hv
        cases h
        rw [put_p]
        exact evOp_none hv hp
      · cases h
  · cases h
    rw [put_p]; exact hp

section
variable {P : Program} {X : Fix} {call : CallE} {ops : Array Oper} {es : List EOper} {b : Nat → Nat → Bool} {q : Nat} {f : Nat → St} {Q : Exit → Act → World → Prop} {cs : List Frame}

theorem all_listed (hD : DrawSpec ops es b q) {L : Array Bool} (hsz : L.size = ops.size) (hr : Region.ready .any ops L = []) : ∀ i, i < ops.size → L.getD i false = true := by
  intro i
  induction i using Nat.strongRecOn with
  | _ i ih =>
    intro hi
    cases hL : L.getD i false with
    | true => rfl
    | false =>
      exfalso
      have ho : ops[i]? = some ops[i] := Array.getElem?_eq_getElem hi
      have : i ∈ Region.ready .any ops L := by
        rw [mem_ready]
        refine ⟨?_, ops[i], ho, fun e he hb => ih e.on (hD.edges i _ ho e he hb) (by have := hD.edges i _ ho e he hb; omega)⟩
        have h1 : i < L.size := by rw [hsz]; exact hi
        simpa [h1] using hL
      rw [hr] at this
      cases this

theorem final_state {n0 : Nat} (hD : DrawSpec ops es b q) (hlen : es.length = ops.size) (hst : ∀ (k : Nat) (o : EOper), es[k]? = some o → stepD call X.G n0 o (flagOf ops es q k) (f k) = some (f (k + 1)))
    {L : Array Bool} {a : Act} {w : World} (hi : DInv X ops es q f b L a cs w) (hall : ∀ i, i < ops.size → L.getD i false = true) : ∃ j, SRel X j (f ops.size) a cs w := by
  obtain ⟨p, A, j, hpn, hp, hA1, hA2, hs⟩ := hi.rel
  obtain ⟨m1, m2, m3⟩ := text_MD hst hlen p ops.size hpn (Nat.le_refl _) fun k e he h1 h2 => by
    cases hf : flagOf ops es q k with
    | true => rfl
    | false =>
      have := (hp k e he hf).1 (hall k h2)
      omega
  have hA : A = (f ops.size).A := by
    funext t
    obtain ⟨t1, t2⟩ := text_A hst hlen hD ops.size (Nat.le_refl _) t
    by_cases hw : ∃ (i : Nat) (ei : EOper), es[i]? = some ei ∧ ei.dst = some t
    · obtain ⟨i, ei, hei, hd⟩ := hw
      have hin : i < ops.size := by rw [← hlen]; exact (List.getElem?_eq_some_iff.1 hei).1
      rw [hA1 t i ei hei (hall i hin) hd, t1 i ei hei hin hd]
    · have hno : ∀ (i : Nat) (ei : EOper), es[i]? = some ei → ei.dst ≠ some t := fun i ei hei hd => hw ⟨i, ei, hei, hd⟩
      rw [hA2 t fun i ei hei _ => hno i ei hei, t2 fun i ei hei _ => hno i ei hei]
  refine ⟨j, ?_⟩
  have e : ({ f p with A := A } : St) = f ops.size := by
    show St.mk A (f p).m (f p).d (f p).p = f ops.size
    rw [hA, ← m1, ← m2, ← m3]
  rw [← e]
  exact hs

theorem any_inv (hc : CallsOk P X.G X.base X.w0 call) (hes : opersC P X.nt ops ops.toList = some es) (hD : DrawSpec ops es b q) {n0 : Nat}
    (hst : ∀ (k : Nat) (o : EOper), es[k]? = some o → stepD call X.G n0 o (flagOf ops es q k) (f k) = some (f (k + 1)))
    (hold : ∀ k, k ≤ q → k ≤ ops.size → ∀ c, c < n0 → (f k).m.bl[c]? = (f 0).m.bl[c]?) (hpn : ∀ k, (f k).p = none)
    (hQ : ∀ j a w, SRel X j (f ops.size) a cs w → Q .normal a w) : ∀ (fuel : Nat) (L : Array Bool) (a : Act) (w : World), DInv X ops es q f b L a cs w → (List.range ops.size).countP (fun i => !L.getD i false) ≤ fuel → wpAny P .any ops Q fuel L a w := by
  have hlen : es.length = ops.size := by rw [(opersC_get hes).1]; simp
  have done : ∀ (L : Array Bool) (a : Act) (w : World), DInv X ops es q f b L a cs w → Region.ready .any ops L = [] → Q .normal a w := fun L a w hi hr => by
    obtain ⟨j, hj⟩ := final_state hD hlen hst hi (all_listed hD hi.size hr)
    exact hQ j a w hj
  intro fuel
  induction fuel with
  | zero =>
    intro L a w hi hcnt
    have hr : Region.ready .any ops L = [] := by
      refine List.eq_nil_iff_forall_not_mem.2 fun k hk => ?_
      rw [mem_ready] at hk
      obtain ⟨hL, o, ho, _⟩ := hk
      have hkn : k < ops.size := (Array.getElem?_eq_some_iff.1 ho).1
      have h1 : k < L.size := by rw [hi.size]; exact hkn
      have hL' : L.getD k false = false := by simpa [h1] using hL
      have : (List.range ops.size).countP (fun i => !L.getD i false) = 0 := by omega
      rw [List.countP_eq_zero] at this
      have := this k (by simpa using hkn)
      rw [hL'] at this
      exact this rfl
    exact ⟨hr, done L a w hi hr⟩
  | succ fuel ih =>
    intro L a w hi hcnt
    refine ⟨done L a w hi, fun k hk => ?_⟩
    refine step_inv hc hes hD hst hold hpn hi hk fun a' w' hi' => ih _ a' w' hi' ?_
    rw [mem_ready] at hk
    obtain ⟨hL, o, ho, _⟩ := hk
    have hkn : k < ops.size := (Array.getElem?_eq_some_iff.1 ho).1
    have h1 : k < L.size := by rw [hi.size]; exact hkn
    have hL' : L.getD k false = false := by simpa [h1] using hL
    have := count_lt (p := fun i => !L.getD i false) (q := fun i => !(L.setIfInBounds k true).getD i false) (fun x hx => by
      by_cases e : k = x
      · subst e; rw [getD_set_self h1] at hx; cases hx
      · rw [getD_set_ne false e] at hx; exact hx) (k := k) (by rw [hL']; rfl) (by rw [getD_set_self h1]; rfl) (List.range ops.size) (by simpa using hkn)
    omega

end

/-- A region whose order is drawn comes to what the text's order comes to. -/
theorem drawn_sound {P : Program} {X : Fix} {call : CallE} (hmix : P.follows .mixedOrders = true) (hc : CallsOk P X.G X.base X.w0 call) (hkc : KeptC call) {id : Nat} {ops : Array Oper} {es : List EOper} (hes : opersC P X.nt ops ops.toList = some es) {q : Nat} (hok : drawOk ops es q = true)
    {s s' : St} {ex : Ex} (h : regionD call X.G es (flagsC ops es q) q s = some (ex, s')) {j : Inj} {a : Act} {cs : List Frame} {w : World} (hs : SRel X j s a cs w) :
    (Code.region id ops true).wp P (fun e a w => XPost X ex s' e a cs w) a w := by
  have hlen : es.length = ops.size := by rw [(opersC_get hes).1]; simp
  have hD := drawOk_spec hok hlen
  obtain ⟨N, h⟩ := regionD_spec h
  unfold regionN at h
  split at h
  · cases h
  rename_i hp
  have hp : s.p = none := by simpa using hp
  split at h
  case h_2 => cases h
  rename_i sc hd
  split at h
  case isFalse => cases h
  rename_i hlow
  split at h
  case h_2 => cases h
  rename_i s1 hd2
  cases h
  obtain ⟨f, h0, hn, hm, hk⟩ := evD_cut q hd hd2
  rw [hlen] at hn hm
  have hst : ∀ (k : Nat) (o : EOper), es[k]? = some o → stepD call X.G N o (flagOf ops es q k) (f k) = some (f (k + 1)) := fun k o ho => by
    obtain ⟨c, hc1, hc2⟩ := hk k o ho
    have : flagOf ops es q k = c := by simp only [flagOf, List.getD, hc1, Option.getD_some]
    rw [this]
    exact hc2
  have hpn : ∀ k, k ≤ ops.size → (f k).p = none := by
    intro k
    induction k with
    | zero => intro _; rw [h0]; exact hp
    | succ k ih =>
      intro hk'
      exact stepD_none (hst k _ (List.getElem?_eq_getElem (by omega))) (ih (by omega))
  have hkept : ∀ k, k ≤ ops.size → Kept (f 0).m (f k).m := by
    intro k
    induction k with
    | zero => intro _; exact Kept.refl _
    | succ k ih =>
      intro hk'
      exact (ih (by omega)).trans (stepD_kept hkc (hst k _ (List.getElem?_eq_getElem (by omega))))
  have hkept2 : ∀ c k, k + c = min q ops.size → Kept (f k).m (f (min q ops.size)).m := by
    intro c
    induction c with
    | zero => intro k hk'; have : k = min q ops.size := by omega
              subst this; exact Kept.refl _
    | succ c ih =>
      intro k hk'
      exact (stepD_kept hkc (hst k _ (List.getElem?_eq_getElem (by omega)))).trans (ih (k + 1) (by omega))
  have hlow0 : (f 0).m.low ≤ (f 0).m.bl.length := by rw [h0]; exact Nat.le_refl _
  have hold : ∀ k, k ≤ q → k ≤ ops.size → ∀ c, c < N → (f k).m.bl[c]? = (f 0).m.bl[c]? := by
    intro k hkq hk' c hc'
    obtain ⟨k1, k2, k3⟩ := hkept k hk' hlow0
    obtain ⟨l1, l2, l3⟩ := hkept2 (min q ops.size - k) k (by omega) k2
    rw [hm] at l1
    exact k3 c (by omega)
  let g : Nat → St := fun k => if k ≤ ops.size then f k else { f ops.size with p := none }
  have hg : ∀ k, k ≤ ops.size → g k = f k := fun k hk' => by simp only [g, if_pos hk']
  have hstg : ∀ (k : Nat) (o : EOper), es[k]? = some o → stepD call X.G N o (flagOf ops es q k) (g k) = some (g (k + 1)) := fun k o ho => by
    have : k < ops.size := by rw [← hlen]; exact (List.getElem?_eq_some_iff.1 ho).1
    rw [hg k (by omega), hg (k + 1) (by omega)]
    exact hst k o ho
  have hpng : ∀ k, (g k).p = none := fun k => by
    by_cases hk' : k ≤ ops.size
    · rw [hg k hk']; exact hpn k hk'
    · simp only [g, if_neg hk']
  refine wp_region_any hmix (any_inv (cs := cs) hc hes hD hstg (fun k hkq hk' c hc' => by rw [hg k hk', hg 0 (by omega)]; exact hold k hkq hk' c hc') hpng (fun j' a' w' hs' => ?_) ops.size _ a _ ?_ ?_)
  · rw [hg ops.size (Nat.le_refl _), hn] at hs'
    exact ⟨j', hs'.step (Ext.low j' (m := s1.m) (m' := ⟨s1.m.bl, lowD s.m s1.m⟩) rfl) (hs'.mem.low rfl), trivial⟩
  · have hf : ∀ i, (Array.replicate ops.size false).getD i false = false := fun i => by simp [Array.getElem?_replicate]; split <;> rfl
    refine ⟨by simp, fun i k _ _ hL => (by rw [hf] at hL; cases hL), 0, s.A, j, Nat.zero_le _, fun i e he _ => ?_, fun t i e he hL => (by rw [hf] at hL; cases hL), fun t _ => ?_, ?_⟩
    · rw [hf]; simp
    · rw [hg 0 (by omega), h0]
    · rw [hg 0 (by omega), h0]
      have e1 := Ext.low j (m := s.m) (m' := ⟨s.m.bl, s.m.bl.length⟩) rfl
      have h1 := hs.step e1 (hs.mem.low rfl)
      exact ⟨h1.fr, h1.mem.drew, h1.dfr, h1.pan, h1.ext⟩
  · have := List.countP_le_length (p := fun i => !(Array.replicate ops.size false).getD i false) (l := List.range ops.size)
    simpa using this

end Go.Ev
