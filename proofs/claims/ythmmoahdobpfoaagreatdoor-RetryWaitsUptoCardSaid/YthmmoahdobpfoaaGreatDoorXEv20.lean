/- The engine, part 20: a law whose canonical calls answer true holds of every argument that reads as data. There are no conditions but those of each lemma. -/
import Derived.Test.YthmmoahdobpfoaaGreatDoorXEv19
import Derived.Carry
import Derived.ChangeSame
set_option linter.unusedSectionVars false
set_option linter.unusedVariables false
set_option linter.unusedSimpArgs false
namespace Go.Ev
open Go.RowKit (Below)
open Go.ChangeShapes Go.WideShapes

section
variable {H : Type} {enc : TypeId × Value → H} {P : Program}

/-- Arguments read as they did. -/
theorem trodAll_below (hl : laidOutB P = true) {W W' : World} (hb : Below W.heap.size W W') : ∀ {ts : List TypeId} {vs : List Value} {ds : List (DataW H)} {ps : List MemPlace},
    (∀ t ∈ ts, P.readableRec t = true ∧ t < P.types.size) → DataW.TrodAll enc P W 0 (fun _ => true) true ts vs ds ps → (∀ x ∈ ps, x.block < W.heap.size) → ∀ sp : Nat → Bool, (∀ x ∈ ps, sp x.block = true) → DataW.TrodAll enc P W' 0 sp true ts vs ds ps
  | [], vs, ds, ps, ht, h, hlt, sp, hsp => by
    obtain ⟨rfl, rfl, rfl⟩ := trodAll_nil h
    rfl
  | t :: ts, vs, ds, ps, ht, h, hlt, sp, hsp => by
    obtain ⟨v, vs1, d, ds1, a, b, rfl, rfl, rfl, h1, h2⟩ := trodAll_cons h
    refine ⟨a, b, ?_, trodAll_below hl hb (fun u hu => ht u (List.mem_cons_of_mem _ hu)) h2 (fun x hx => hlt x (List.mem_append_right _ hx)) sp (fun x hx => hsp x (List.mem_append_right _ hx)), rfl⟩
    obtain ⟨k1, k2⟩ := ht t (by simp)
    exact WideElems.Trod_stays hl k1 k2 h1 (fun x hx => hb.same (hlt x (List.mem_append_left _ hx))) (fun x hx => hsp x (List.mem_append_left _ hx))

theorem post_of_below {f : Func} {s : ChangeSpec} {apart fresh handsOn again : Bool} {W W' : World} {args : Array Value} {v : Value} {ds gs : List (DataW H)} {before pa pv : List MemPlace}
    (hW : DataW.Whole enc P f.params.toList s.vars apart W args.toList ds gs before) (hb : Below W.heap.size W W')
    (hres : ∀ (b : Nat) (sp : Nat → Bool) (hd : Bool), DataW.TrodAll enc P W' b sp hd f.resultTypes.toList (v.resultList f.resultTypes.size) (s.fn H (ds ++ gs)).results [])
    (hargs : ∀ sp : Nat → Bool, (∀ p ∈ before, sp p.block = true) → DataW.TrodAll enc P W' 0 sp true f.params.toList args.toList (s.fn H (ds ++ gs)).args pa)
    (hvars : ∀ sp : Nat → Bool, (∀ p ∈ before, sp p.block = true) → DataW.TrodVars enc P W' sp s.vars (s.fn H (ds ++ gs)).vars pv)
    (hps : before = pa ++ pv)
    (hok : ∀ (j : Nat) (t : TypeId) (r : Value), f.resultTypes[j]? = some t → (v.resultList f.resultTypes.size)[j]? = some r → Value.okWide P W' .any 0 t r) :
    s.post enc P f apart fresh handsOn again W args v W' := by
  have hold : ∀ p ∈ before, (fun b => decide (b < W.heap.size)) p.block = true := fun p hp => by simpa using hW.lt p hp
  have hlt : ∀ p ∈ before, p.block < W.heap.size := fun p hp => hW.lt p hp
  refine ⟨ds, gs, before, [], pa, pv, hW, hres _ _ _, hargs _ hold, hvars _ hold, World.keptBut_mono (fun p hp => ⟨hp, ?_⟩) (hb.frame (· ∈ before)), fun _ => ?_⟩
  · rw [hps, List.mem_append] at hp
    exact Or.inr hp
  · obtain ⟨_, _, _, _, _, hz, hn⟩ := hW
    refine ⟨hok, _, _, ([] ++ pa) ++ pv, ⟨[] ++ pa, pv, trodAll_append (hargs _ (fun _ _ => rfl)) (hres _ _ _), hvars _ (fun _ _ => rfl), rfl, ?_, ?_⟩, ?_⟩
    · intro b off hp
      have hp' : MemPlace.cell b off ∈ before := by rw [hps]; simpa using hp
      rw [hb.frozen (hlt _ hp')]
      exact hz b off hp'
    · intro ha
      have := hn ha
      rw [hps] at this
      simpa using this
    · intro p hp _
      rw [hps]
      simpa using hp

end

/-- The value of one argument, by its cells. -/
def argOf : Sh → List EV → EV
  | .struct _, xs => .agg xs
  | .arr _ _, xs => .agg xs
  | _, xs => xs.headD undefE

/-- Arguments. -/
def SitArgs (N : Nat) (m : Mem) : List Sh → List EV → Prop
  | [], xs => xs = []
  | f :: fs, xs => ∃ ys r, xs = argOf f ys :: r ∧ Sits N m f ys ∧ ys.length = f.size ∧ SitArgs N m fs r

theorem SitArgs.pre {N : Nat} {m m' : Mem} (h : Pre m m') : ∀ {fs : List Sh} {xs : List EV}, SitArgs N m fs xs → SitArgs N m' fs xs
  | [], _, k => k
  | f :: fs, _, ⟨ys, r, e, k1, k2, k3⟩ => ⟨ys, r, e, Sits.pre h f k1, k2, SitArgs.pre h k3⟩

section
variable {H : Type} {enc : TypeId × Value → H} {P : Program} {G : Globs} {base bb : Nat} {w0 w : World}

/-- One argument. -/
theorem lay_arg {B : DataW H → Nat} (hB : Bulky B) {N : Nat} {sh : Sh} {t : TypeId} {v : Value} {d : DataW H} {p : List MemPlace} (hk : shOk P sh t = true) (hok : Value.okWide P w .any bb t v) (h : DataW.Trod enc P w 0 (fun _ => true) true t v d p) (hN : B d ≤ N) {j : Inj} {m : Mem} (hro : RO m) (hm : MR G base w0 j m w) :
    ∃ j' m' xs, Ext j m j' m' ∧ Pre m m' ∧ RO m' ∧ MR G base w0 j' m' w ∧ VRel j' m' (argOf sh xs) v ∧ Sits N m' sh xs ∧ xs.length = sh.size := by
  obtain ⟨fuel, h⟩ := h
  obtain ⟨j', m', xs, h1, h2, h3, h4, h5, h6, h7, h8⟩ := lay enc hB sh hk h hN j m hro hm
  refine ⟨j', m', xs, h1, h2, h3, h4, ?_, h6, h7⟩
  have one : sh.size = 1 → (∀ fs, sh ≠ .struct fs) → (∀ cs, v ≠ .agg cs) → (∀ cs, v ≠ .tuple cs) → VRel j' m' (xs.headD undefE) v := by
    intro hs _ ha htu
    have hc : v.cells = #[v] := by cases v <;> first | rfl | exact absurd rfl (ha _) | exact absurd rfl (htu _)
    rw [hc] at h5
    match xs, h7, h5 with
    | [x], _, h5 =>
      obtain ⟨y, ys, e, hr, _⟩ := h5
      cases e
      exact hr
    | [], h7, _ => rw [hs] at h7; simp at h7
    | x :: y :: xs, h7, _ => rw [hs] at h7; simp at h7
  cases sh with
  | struct fs =>
    simp only [shOk] at hk
    split at hk
    case h_2 => cases hk
    rename_i gs ht
    simp only [Value.okWide, ht] at hok
    obtain ⟨cs, rfl, _⟩ := hok
    exact ⟨cs, rfl, h5, h8⟩
  | arr n e =>
    simp only [shOk] at hk
    split at hk
    case h_2 => cases hk
    rename_i k u ht
    simp only [Value.okWide, ht] at hok
    obtain ⟨cs, rfl, _⟩ := hok
    exact ⟨cs, rfl, h5, h8⟩
  | bool =>
    simp only [shOk] at hk
    split at hk
    case h_2 => cases hk
    rename_i ht
    refine one rfl (by simp) ?_ ?_ <;> (rintro cs rfl; simp [Value.okWide, ht, Cell.okWide, Cell.ok] at hok)
  | flt k =>
    simp only [shOk] at hk
    split at hk
    case h_2 => cases hk
    rename_i ht
    refine one rfl (by simp) ?_ ?_ <;> (rintro cs rfl; simp [Value.okWide, ht, Cell.okWide, Cell.ok] at hok)
  | int k =>
    simp only [shOk] at hk
    split at hk
    case h_2 => cases hk
    rename_i ht
    refine one rfl (by simp) ?_ ?_ <;> (rintro cs rfl; simp [Value.okWide, ht, Cell.okWide, Cell.ok] at hok)
  | str =>
    simp only [shOk] at hk
    split at hk
    case h_2 => cases hk
    rename_i ht
    refine one rfl (by simp) ?_ ?_ <;> (rintro cs rfl; simp [Value.okWide, ht, Cell.okWide, Cell.ok] at hok)
  | slice e =>
    simp only [shOk] at hk
    split at hk
    case h_2 => cases hk
    rename_i u ht
    refine one rfl (by simp) ?_ ?_ <;> (rintro cs rfl; simp [Value.okWide, ht, Cell.okWide, Cell.ok] at hok)

/-- All arguments. -/
theorem lay_args {B : DataW H → Nat} (hB : Bulky B) {N : Nat} : ∀ {shs : List Sh} {ts : List TypeId} {vs : List Value} {ds : List (DataW H)} {ps : List MemPlace}, shs.length = ts.length → (∀ (i : Nat) (s : Sh) (t : TypeId), shs[i]? = some s → ts[i]? = some t → shOk P s t = true) →
    (∀ (i : Nat) (t : TypeId) (v : Value), ts[i]? = some t → vs[i]? = some v → Value.okWide P w .any bb t v) → DataW.TrodAll enc P w 0 (fun _ => true) true ts vs ds ps → (∀ d ∈ ds, B d ≤ N) →
    ∀ (j : Inj) (m : Mem), RO m → MR G base w0 j m w → ∃ j' m' xs, Ext j m j' m' ∧ Pre m m' ∧ RO m' ∧ MR G base w0 j' m' w ∧ VsRel j' m' xs vs ∧ SitArgs N m' shs xs
  | [], [], vs, ds, ps, hl, hk, hok, h, hN, j, m, hro, hm => by
    obtain ⟨rfl, rfl, rfl⟩ := trodAll_nil h
    exact ⟨j, m, [], Ext.refl j m, Pre.refl m, hro, hm, rfl, rfl⟩
  | [], t :: ts, vs, ds, ps, hl, hk, hok, h, hN, j, m, hro, hm => by simp at hl
  | s :: shs, [], vs, ds, ps, hl, hk, hok, h, hN, j, m, hro, hm => by simp at hl
  | s :: shs, t :: ts, vs, ds, ps, hl, hk, hok, h, hN, j, m, hro, hm => by
    obtain ⟨v, vs1, d, ds1, a, b, rfl, rfl, rfl, h1, h2⟩ := trodAll_cons h
    obtain ⟨j1, m1, xs, e1, p1, ro1, hm1, hv1, hs1, hl1⟩ := lay_arg hB (hk 0 s t rfl rfl) (hok 0 t v rfl rfl) h1 (hN d (by simp)) hro hm
    obtain ⟨j2, m2, ys, e2, p2, ro2, hm2, hv2, hs2⟩ := lay_args hB (shs := shs) (ts := ts) (vs := vs1) (by simpa using hl) (fun i s' t' hi ht' => hk (i + 1) s' t' (by simpa using hi) (by simpa using ht')) (fun i t' v' ht' hv' => hok (i + 1) t' v' (by simpa using ht') (by simpa using hv')) h2 (fun d hd => hN d (List.mem_cons_of_mem _ hd)) j1 m1 ro1 hm1
    exact ⟨j2, m2, argOf s xs :: ys, e1.trans e2, p1.trans p2, ro2, hm2, ⟨v, vs1, rfl, VRel.ext e2 _ hv1, hv2⟩, xs, ys, rfl, Sits.pre p2 s hs1, hl1, hs2⟩

/-- A law that answers true whatever canonical arguments it gets answers true whatever it gets. -/
theorem law_calls {B : DataW H → Nat} (hB : Bulky B) {N : Nat} {T : FuncId → Option EFunc} (hmix : P.follows .mixedOrders = true) (hT : Fits P T) {f : FuncId} {ef : EFunc} (hf : T f = some ef) (hp : ef.prim = none) {shs : List Sh} {ts : List TypeId}
    (hlaw : ∀ (m : Mem) (xs : List EV), RO m → SitArgs N m shs xs → ∃ m' p', Comes T G f xs m none ⟨.val (.bool true), m', p'⟩)
    (hl : shs.length = ts.length) (hk : ∀ (i : Nat) (s : Sh) (t : TypeId), shs[i]? = some s → ts[i]? = some t → shOk P s t = true) {args : Array Value} (hok : ∀ (i : Nat) (t : TypeId) (v : Value), ts[i]? = some t → args.toList[i]? = some v → Value.okWide P w .any bb t v)
    {ds : List (DataW H)} {ps : List MemPlace} (h : DataW.TrodAll enc P w 0 (fun _ => true) true ts args.toList ds ps) (hN : ∀ d ∈ ds, B d ≤ N)
    (hG : ∀ g cs, G g = some cs → g < w.heap.size ∧ cs.all cellOk = true ∧ ∃ c ty fr, w.heap[g]? = some (.cells c ty fr) ∧ RowIn ⟨id, id, id, fun _ => none⟩ ⟨[], 0⟩ cs c 0) :
    Calls P f args w fun e w' => e = .returned (.bool true) ∧ Below w.heap.size w w' := by
  have hm0 : MemRel G w.heap.size w ⟨id, id, id, fun _ => none⟩ ⟨[], 0⟩ w := by
    refine ⟨Below.refl _ _, Nat.le_refl _, hG, ?_, ?_, ?_, ?_, fun b cs gen rw c ty fr hb => by simp at hb, fun R n hR => by cases hR⟩
    · intro b cs gen rw hb; simp at hb
    · intro b es ck hb; simp at hb
    · intro b b' hne h1; rcases h1 with ⟨cs, gen, h1⟩ | ⟨es, c, h1⟩ <;> simp at h1
    · intro b s p hb; simp at hb
  obtain ⟨j, m, xs, _, _, hro, hm, hv, hs⟩ := lay_args (bb := bb) hB hl hk hok h hN ⟨id, id, id, fun _ => none⟩ ⟨[], 0⟩ (fun b x hb => by simp at hb) ⟨hm0, fun _ => rfl⟩
  obtain ⟨m', p', hc⟩ := hlaw m xs hro hs
  refine (calls_of_ev hmix hT hf hp hc hm.rel hv).mono fun e w' he => ?_
  cases e with
  | returned v =>
    obtain ⟨x, j', hx, _, hm', hr⟩ := he
    cases hx
    cases hr
    exact ⟨rfl, hm'.below⟩
  | panicked chain =>
    obtain ⟨x, j', v, hx, _⟩ := he
    cases hx
  | outgrown => exact he.elim

end
end Go.Ev
