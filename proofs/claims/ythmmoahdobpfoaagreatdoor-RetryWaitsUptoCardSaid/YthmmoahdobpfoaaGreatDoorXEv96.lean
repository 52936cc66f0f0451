/- The engine, part 96: regions that lay blocks of known content at any time ahead of the cut, step by step. There are no conditions but those that lateOk reckons. -/
import Derived.Test.YthmmoahdobpfoaaGreatDoorXEv95
set_option linter.unusedSectionVars false
set_option linter.unusedVariables false
set_option linter.unusedSimpArgs false
namespace Go.Ev
open Go.RowKit (Below)

/-- What a region with late blocks goes by: f: the text's order up to the cut (blocks still dead); g: from the cut on. -/
structure LCtx (P : Program) (X : Fix) (call : CallE) (ops : Array Oper) (es : List EOper) (b : Nat → Nat → Bool) (q : Nat) (js : List Nat) (bs : List Blk) (rb : Nat) (fl : Nat → Bool) (f g : Nat → St) : Prop where
  hc : CallsOk P X.G X.base X.w0 call
  hfc : FillC call
  hes : opersC P X.nt ops ops.toList = some es
  hD : LSpec ops es fl b q
  hq : q ≤ ops.size
  nodup : js.Nodup
  late : ∀ (i k : Nat), js[i]? = some k → k < q ∧ fl k = true ∧ ∃ (e : EOper) (x : Blk) (o : Oper), es[k]? = some e ∧ lateB e.op = some x ∧ e.guard = none ∧ bs[i]? = some x ∧ ops[k]? = some o ∧ LateOp o.op
  float : ∀ (k : Nat) (e : EOper), es[k]? = some e → k ∉ js → fl k = true → e.op.floats = true ∧ (e.op.calm = false → k < q)
  pin : ∀ (k : Nat) (e : EOper), es[k]? = some e → fl k = false → k ∉ js ∧ e.op.calm = false
  preN : ∀ (k : Nat) (e : EOper), es[k]? = some e → k < q → k ∉ js → stepD call X.G rb e (fl k) (f k) = some (f (k + 1))
  preL : ∀ (i k : Nat) (e : EOper), js[i]? = some k → es[k]? = some e → f (k + 1) = (f k).put e.dst (lateV e.op (rb + i))
  post : ∀ (k : Nat) (e : EOper), es[k]? = some e → q ≤ k → stepD call X.G rb e (fl k) (g k) = some (g (k + 1))
  gA : (g q).A = (f q).A
  gd : (g q).d = (f q).d
  fp : ∀ k, k ≤ q → (f k).p = none
  gp : ∀ k, q ≤ k → k ≤ ops.size → (g k).p = none
  cut : (g q).m.bl = (fill (FLf bs js rb fun _ => true) (f q).m).bl
  old : ∀ k, k ≤ q → ∀ c, c < rb → (f k).m.bl[c]? = (f 0).m.bl[c]?
  dead : ∀ k, k ≤ q → ∀ i, i < bs.length → (f k).m.bl[rb + i]? = some (.dead 0)

/-- A state with another frame. -/
def wA (s : St) (A : Fr) : St := ⟨A, s.m, s.d, s.p⟩
def pA (A : Fr) (dst : Option Nat) (v : EV) : Fr := match dst with
  | some d => upd A d v
  | none => A
theorem wA_put (s : St) (dst : Option Nat) (v : EV) (A : Fr) : (wA s A).put dst v = wA s (pA A dst v) := by cases dst <;> rfl
theorem pA_match {A B : Fr} {dst : Option Nat} {v : EV} {s : St} (hA : B = (s.put dst v).A) (t : Nat) : pA A dst v t = if dst = some t then B t else A t := upd_match hA t

section
variable (bs : List Blk) (js : List Nat) (rb q : Nat) (f g : Nat → St)
/-- The frames. -/
def lA (k : Nat) : Fr := if k ≤ q then (f k).A else (g k).A
/-- The state when what does not float is done up to p, and L is done. -/
def lS (p : Nat) (L : Nat → Bool) : St := if p ≤ q then fillS (FLf bs js rb L) (f p) else g p
/-- The state ahead of an operation, and behind it. -/
def lT (k : Nat) (L : Nat → Bool) : St := if k < q then fillS (FLf bs js rb L) (f k) else g k
def lU (k : Nat) (L : Nat → Bool) : St := if k < q then fillS (FLf bs js rb L) (f (k + 1)) else g (k + 1)
end

/-- What is done so far. -/
structure LInv (X : Fix) (ops : Array Oper) (es : List EOper) (q : Nat) (js : List Nat) (bs : List Blk) (rb : Nat) (fl : Nat → Bool) (f g : Nat → St) (b : Nat → Nat → Bool) (L : Array Bool) (a : Act) (cs : List Frame) (w : World) : Prop where
  size : L.size = ops.size
  down : ∀ i k, i < ops.size → k < ops.size → L.getD k false = true → b k i = true → L.getD i false = true
  rel : ∃ (p : Nat) (A : Fr) (j : Inj), p ≤ ops.size ∧ (∀ i e, es[i]? = some e → fl i = false → (L.getD i false = true ↔ i < p)) ∧
    (q < p → ∃ i e, es[i]? = some e ∧ fl i = false ∧ q ≤ i ∧ i < p) ∧
    (∀ t i e, es[i]? = some e → L.getD i false = true → e.dst = some t → A t = lA q f g (i + 1) t) ∧
    (∀ t, (∀ i e, es[i]? = some e → L.getD i false = true → e.dst ≠ some t) → A t = lA q f g 0 t) ∧
    SRel X j (wA (lS bs js rb q f g p (fun k => L.getD k false)) A) a cs w

theorem flatMD {F : Nat → St} {c : Nat} : ∀ {d : Nat}, c ≤ d → (∀ k, c ≤ k → k < d → (F (k + 1)).m = (F k).m ∧ (F (k + 1)).d = (F k).d) → (F d).m = (F c).m ∧ (F d).d = (F c).d
  | 0, h, _ => by
    have : c = 0 := by omega
    subst this
    exact ⟨rfl, rfl⟩
  | d + 1, h, hs => by
    by_cases hc : c = d + 1
    · subst hc; exact ⟨rfl, rfl⟩
    · obtain ⟨h1, h2⟩ := flatMD (F := F) (c := c) (d := d) (by omega) fun k h1 h2 => hs k h1 (by omega)
      obtain ⟨k1, k2⟩ := hs d (by omega) (by omega)
      exact ⟨k1.trans h1, k2.trans h2⟩

section
variable {P : Program} {X : Fix} {call : CallE} {ops : Array Oper} {es : List EOper} {b : Nat → Nat → Bool} {q : Nat} {js : List Nat} {bs : List Blk} {rb : Nat} {fl : Nat → Bool} {f g : Nat → St} {Q : Exit → Act → World → Prop} {cs : List Frame}

theorem LCtx.len (C : LCtx P X call ops es b q js bs rb fl f g) : es.length = ops.size := by rw [(opersC_get C.hes).1]; simp
theorem LCtx.lt (C : LCtx P X call ops es b q js bs rb fl f g) {k : Nat} {e : EOper} (he : es[k]? = some e) : k < ops.size := by rw [← C.len]; exact (List.getElem?_eq_some_iff.1 he).1
theorem LCtx.mem (C : LCtx P X call ops es b q js bs rb fl f g) {k : Nat} (hk : k ∈ js) : ∃ i : Nat, js[i]? = some k := List.getElem?_of_mem hk
theorem lT_A (C : LCtx P X call ops es b q js bs rb fl f g) (k : Nat) (L : Nat → Bool) : (lT bs js rb q f g k L).A = lA q f g k := by
  unfold lT lA
  by_cases h : k < q
  · rw [if_pos h, if_pos (by omega)]; rfl
  · rw [if_neg h]
    by_cases h2 : k ≤ q
    · have : k = q := by omega
      subst this
      rw [if_pos h2, C.gA]
    · rw [if_neg h2]
theorem lU_A (k : Nat) (L : Nat → Bool) : (lU bs js rb q f g k L).A = lA q f g (k + 1) := by
  unfold lU lA
  by_cases h : k < q
  · rw [if_pos h, if_pos (by omega)]; rfl
  · rw [if_neg h, if_neg (by omega)]
theorem lS_next (k : Nat) (L : Nat → Bool) : lS bs js rb q f g (k + 1) L = lU bs js rb q f g k L := by
  unfold lU lS
  by_cases h : k < q
  · rw [if_pos h, if_pos (by omega)]
  · rw [if_neg h, if_neg (by omega)]
theorem lS_congr {p : Nat} {L L' : Nat → Bool} (h : ∀ k ∈ js, L k = L' k) : lS bs js rb q f g p L = lS bs js rb q f g p L' := by
  unfold lS
  rw [FL_congr h]
theorem lT_step (C : LCtx P X call ops es b q js bs rb fl f g) {k : Nat} {e : EOper} (he : es[k]? = some e) (hk : k ∉ js) (L : Nat → Bool) : stepD call X.G rb e (fl k) (lT bs js rb q f g k L) = some (lU bs js rb q f g k L) := by
  unfold lT lU
  by_cases h : k < q
  · rw [if_pos h, if_pos h]
    exact (stepD_fill C.hfc (FL_dead (C.dead k (by omega))) (C.preN k e he h hk)).1
  · rw [if_neg h, if_neg h]
    exact C.post k e he (by omega)
theorem lA_step (C : LCtx P X call ops es b q js bs rb fl f g) {k : Nat} {e : EOper} (he : es[k]? = some e) {t : Nat} (ht : e.dst ≠ some t) : lA q f g (k + 1) t = lA q f g k t := by
  by_cases hk : k ∈ js
  · obtain ⟨i, hi⟩ := C.mem hk
    obtain ⟨hkq, _⟩ := C.late i k hi
    unfold lA
    rw [if_pos (by omega), if_pos (by omega), C.preL i k e hi he]
    cases hd : e.dst with
    | none => rfl
    | some d =>
      have : t ≠ d := fun e' => ht (by rw [hd, e'])
      simp only [St.put, upd, this, if_false]
  · have := stepD_A (lT_step C he hk fun _ => true) ht
    rw [lU_A, lT_A C] at this
    exact this

theorem lA_text (C : LCtx P X call ops es b q js bs rb fl f g) : ∀ (k : Nat), k ≤ ops.size → ∀ t, (∀ i e, es[i]? = some e → i < k → e.dst = some t → lA q f g k t = lA q f g (i + 1) t) ∧ ((∀ i e, es[i]? = some e → i < k → e.dst ≠ some t) → lA q f g k t = lA q f g 0 t)
  | 0, _, t => ⟨fun i e _ hi => by omega, fun _ => rfl⟩
  | k + 1, hk, t => by
    obtain ⟨h1, h2⟩ := lA_text C k (by omega) t
    have hke : ∃ e, es[k]? = some e := ⟨es[k]'(by rw [C.len]; omega), List.getElem?_eq_getElem (by rw [C.len]; omega)⟩
    obtain ⟨e, he⟩ := hke
    refine ⟨fun i ei hi hik hd => ?_, fun hno => ?_⟩
    · by_cases hik' : i = k
      · subst hik'; rfl
      · have hne : e.dst ≠ some t := C.hD.dst i k ei e hi he hik' t hd
        rw [lA_step C he hne]
        exact h1 i ei hi (by omega) hd
    · rw [lA_step C he (hno k e he (by omega))]
      exact h2 fun i ei hi hik => hno i ei hi (by omega)

/-- Behind the cut nothing but what does not float changes memory; ahead of it too. -/
theorem preMD (C : LCtx P X call ops es b q js bs rb fl f g) {c d : Nat} (hcd : c ≤ d) (hd : d ≤ q) (h : ∀ k e, es[k]? = some e → c ≤ k → k < d → fl k = true) : (f d).m = (f c).m ∧ (f d).d = (f c).d :=
  flatMD hcd fun k h1 h2 => by
    have hkn : k < es.length := by rw [C.len]; have := C.hq; omega
    have he : es[k]? = some es[k] := List.getElem?_eq_getElem hkn
    by_cases hk : k ∈ js
    · obtain ⟨i, hi⟩ := C.mem hk
      rw [C.preL i k _ hi he]
      exact ⟨put_m _ _ _, put_d _ _ _⟩
    · have hs := C.preN k _ he (by omega) hk
      rw [h k _ he h1 h2] at hs
      exact ⟨(stepD_float hs).1, (stepD_float hs).2.1⟩
theorem postMD (C : LCtx P X call ops es b q js bs rb fl f g) {c d : Nat} (hcd : c ≤ d) (hc : q ≤ c) (hd : d ≤ ops.size) (h : ∀ k e, es[k]? = some e → c ≤ k → k < d → fl k = true) : (g d).m = (g c).m ∧ (g d).d = (g c).d :=
  flatMD hcd fun k h1 h2 => by
    have hkn : k < es.length := by rw [C.len]; omega
    have he : es[k]? = some es[k] := List.getElem?_eq_getElem hkn
    have hs := C.post k _ he (by omega)
    rw [h k _ he h1 h2] at hs
    exact ⟨(stepD_float hs).1, (stepD_float hs).2.1⟩

theorem l_ready (C : LCtx P X call ops es b q js bs rb fl f g) {L : Array Bool} {A : Fr}
    (hdown : ∀ i k, i < ops.size → k < ops.size → L.getD k false = true → b k i = true → L.getD i false = true)
    (hA1 : ∀ t i e, es[i]? = some e → L.getD i false = true → e.dst = some t → A t = lA q f g (i + 1) t)
    (hA2 : ∀ t, (∀ i e, es[i]? = some e → L.getD i false = true → e.dst ≠ some t) → A t = lA q f g 0 t)
    {k : Nat} {e : EOper} (he : es[k]? = some e) (hk : L.getD k false = false) (hb : ∀ i, i < ops.size → b k i = true → L.getD i false = true) {t : Nat} (ht : t ∈ e.reads) : lA q f g k t = A t := by
  have hkn : k < ops.size := C.lt he
  obtain ⟨t1, t2⟩ := lA_text C k (by omega) t
  by_cases hw : ∃ (i : Nat) (ei : EOper), es[i]? = some ei ∧ ei.dst = some t
  · obtain ⟨i, ei, hi, hd⟩ := hw
    have hin : i < ops.size := C.lt hi
    have huniq : ∀ (i' : Nat) (e' : EOper), es[i']? = some e' → e'.dst = some t → i' = i := fun i' e' hi' hd' => by
      by_cases h : i' = i
      · exact h
      · exact absurd hd (C.hD.dst i' i e' ei hi' hi h t hd')
    have none : L.getD i false = false → lA q f g k t = lA q f g 0 t → lA q f g k t = A t := fun hL hf => by
      rw [hf]
      refine (hA2 t fun i' e' hi' hL' hd' => ?_).symm
      rw [huniq i' e' hi' hd'] at hL'
      rw [hL] at hL'
      cases hL'
    rcases Nat.lt_trichotomy i k with h | h | h
    · have hbi := (C.hD.reads i k ei e hi he (by omega) t ht hd).1 h
      rw [t1 i ei hi h hd, hA1 t i ei hi (hb i hin hbi) hd]
    · subst h
      exact none hk (t2 fun i' e' hi' hlt hd' => by have := huniq i' e' hi' hd'; omega)
    · have hbi := (C.hD.reads i k ei e hi he (by omega) t ht hd).2 h
      refine none ?_ (t2 fun i' e' hi' hlt hd' => by have := huniq i' e' hi' hd'; omega)
      cases hL : L.getD i false with
      | false => rfl
      | true =>
        have := hdown k i hkn hin hL hbi
        rw [hk] at this
        cases this
  · have hno : ∀ (i : Nat) (ei : EOper), es[i]? = some ei → ei.dst ≠ some t := fun i ei hi hd => hw ⟨i, ei, hi, hd⟩
    rw [t2 fun i ei hi _ => hno i ei hi, hA2 t fun i ei hi _ => hno i ei hi]

/-- One operation more is done. -/
theorem LInv.more (C : LCtx P X call ops es b q js bs rb fl f g) {L : Array Bool} {a : Act} {w : World} (hi : LInv X ops es q js bs rb fl f g b L a cs w) {k : Nat} {e : EOper} (he : es[k]? = some e) (hk : L.getD k false = false) (hb : ∀ i, i < ops.size → b k i = true → L.getD i false = true)
    {p p' : Nat} {A : Fr} {a' : Act} {w' : World} {j' : Inj}
    (hp : (∀ i e, es[i]? = some e → fl i = false → (L.getD i false = true ↔ i < p)))
    (hpq : q < p → ∃ i e, es[i]? = some e ∧ fl i = false ∧ q ≤ i ∧ i < p)
    (hA1 : ∀ t i e, es[i]? = some e → L.getD i false = true → e.dst = some t → A t = lA q f g (i + 1) t)
    (hA2 : ∀ t, (∀ i e, es[i]? = some e → L.getD i false = true → e.dst ≠ some t) → A t = lA q f g 0 t)
    (hp' : p' = if fl k = true then p else k + 1) (hpn : p ≤ ops.size) {A' : Fr} (hA' : ∀ t, A' t = if e.dst = some t then lA q f g (k + 1) t else A t) (hs : SRel X j' (wA (lS bs js rb q f g p' (fun c => (L.setIfInBounds k true).getD c false)) A') a' cs w') :
    LInv X ops es q js bs rb fl f g b (L.setIfInBounds k true) a' cs w' := by
  have hkn : k < ops.size := C.lt he
  have hset : ∀ i, (L.setIfInBounds k true).getD i false = true ↔ L.getD i false = true ∨ i = k := fun i => by
    by_cases h : k = i
    · subst h
      simp only [getD_set_self (by rw [hi.size]; exact hkn), or_true]
    · rw [getD_set_ne false h]
      exact ⟨.inl, fun h' => h'.resolve_right (fun e => h e.symm)⟩
  refine ⟨by simp [hi.size], fun i c hin hcn hL hbb => ?_, p', A', j', ?_, ?_, ?_, ?_, ?_, hs⟩
  · rw [hset] at hL ⊢
    rcases hL with hL | rfl
    · exact .inl (hi.down i c hin hcn hL hbb)
    · exact .inl (hb i hin hbb)
  · rw [hp']; split
    · exact hpn
    · omega
  · intro i ei hei hfl
    rw [hset]
    by_cases hf : fl k = true
    · rw [hp', if_pos hf, ← hp i ei hei hfl]
      refine ⟨fun h => h.resolve_right fun h' => ?_, .inl⟩
      subst h'
      rw [hf] at hfl
      cases hfl
    · have hf' : fl k = false := by simpa using hf
      rw [hp', if_neg hf]
      constructor
      · rintro (h | h)
        · rcases Nat.lt_trichotomy i k with qq | qq | qq
          · omega
          · omega
          · have := C.hD.anch k i e ei he hei qq hf' hfl
            have := hi.down k i hkn (C.lt hei) h this
            rw [hk] at this
            cases this
        · omega
      · intro h
        by_cases qq : i = k
        · exact .inr qq
        · exact .inl (hb i (by omega) (C.hD.anch i k ei e hei he (by omega) hfl hf'))
  · intro hqp
    by_cases hf : fl k = true
    · rw [hp', if_pos hf] at hqp ⊢
      exact hpq hqp
    · have hf' : fl k = false := by simpa using hf
      rw [hp', if_neg hf] at hqp ⊢
      exact ⟨k, e, he, hf', by omega, by omega⟩
  · intro t i ei hei hL hd
    rw [hset] at hL
    rw [hA' t]
    by_cases qq : i = k
    · subst qq
      rw [he] at hei
      cases hei
      rw [if_pos hd]
    · rw [if_neg (C.hD.dst i k ei e hei he qq t hd)]
      exact hA1 t i ei hei (hL.resolve_right qq) hd
  · intro t hno
    rw [hA' t, if_neg (hno k e he ((hset k).2 (.inr rfl)))]
    exact hA2 t fun i ei hei hL => hno i ei hei ((hset i).2 (.inl hL))
end
end Go.Ev
