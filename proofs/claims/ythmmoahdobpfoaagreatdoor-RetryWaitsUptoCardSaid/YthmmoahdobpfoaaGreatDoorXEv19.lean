/- The engine, part 19: arguments that read as data, as read-only blocks of the canonical memory. There are no conditions. -/
import Derived.Test.YthmmoahdobpfoaaGreatDoorXEv15
import Derived.DataReads
import Derived.ChangeArms
import Derived.OpenShut
set_option linter.unusedSectionVars false
set_option linter.unusedVariables false
set_option linter.unusedSimpArgs false
namespace Go.Ev
open Go.RowKit (Below)

/-- Shapes of what is read. -/
inductive Sh where
  | bool
  | int (k : IntKind)
  | str
  | flt (k : FloatKind)
  | slice (e : Sh)
  | struct (fs : List Sh)
  | arr (n : Nat) (e : Sh)

mutual
def Sh.size : Sh → Nat
  | .struct fs => Sh.sizes fs
  | .arr n e => n * e.size
  | _ => 1
def Sh.sizes : List Sh → Nat
  | [] => 0
  | f :: fs => f.size + Sh.sizes fs
end

/-! Does a type have a shape? -/
mutual
def shOk (P : Program) : Sh → TypeId → Bool
  | .bool, t => match P.underlying t with
    | some .bool => true
    | _ => false
  | .int k, t => match P.underlying t with
    | some (.int k') => k == k'
    | _ => false
  | .str, t => match P.underlying t with
    | some .string => true
    | _ => false
  | .flt k, t => match P.underlying t with
    | some (.float k') => k == k'
    | _ => false
  | .slice e, t => match P.underlying t with
    | some (.slice u) => shOk P e u && P.cellsOf u == e.size && e.size != 0
    | _ => false
  | .struct fs, t => match P.underlying t with
    | some (.struct gs) => shsOk P fs gs.toList 0 && P.cellsOf t == Sh.sizes fs
    | _ => false
  | .arr n e, t => match P.underlying t with
    | some (.array k u) => k == n && shOk P e u && P.cellsOf u == e.size && P.cellsOf t == n * e.size
    | _ => false
def shsOk (P : Program) : List Sh → List Field → Nat → Bool
  | [], [], _ => true
  | f :: fs, g :: gs, n => shOk P f g.type && g.offset == n && P.cellsOf g.type == f.size && shsOk P fs gs (n + f.size)
  | _, _, _ => false
end

/-! What a row of cells is like, that has a shape. -/
mutual
def Sits (N : Nat) (m : Mem) : Sh → List EV → Prop
  | .bool, xs => ∃ b, xs = [.bool b]
  | .int k, xs => ∃ n, xs = [.int k n] ∧ (Lit.int k n).wf = true
  | .str, xs => ∃ s, xs = [.str s] ∧ s.length ≤ N
  | .flt k, xs => ∃ n, xs = [.flt k n] ∧ (Lit.float k n).wf = true
  | .slice e, xs => xs = [.slice none 0 0 0] ∨ ∃ (b len : Nat) (cs : List (List EV)), xs = [.slice (some ⟨.mem b 0, 0⟩) len len e.size] ∧ cs.length = len ∧ len ≤ N ∧ (b < m.bl.length ∧ (len = 0 ∨ m.bl[b]? = some (.cells cs.flatten 0 false))) ∧ ∀ c ∈ cs, Sits N m e c ∧ c.length = e.size
  | .struct fs, xs => SitsAll N m fs xs
  | .arr n e, xs => ∃ cs : List (List EV), xs = cs.flatten ∧ cs.length = n ∧ ∀ c ∈ cs, Sits N m e c ∧ c.length = e.size
def SitsAll (N : Nat) (m : Mem) : List Sh → List EV → Prop
  | [], xs => xs = []
  | f :: fs, xs => ∃ a b, xs = a ++ b ∧ a.length = f.size ∧ Sits N m f a ∧ SitsAll N m fs b
end

/-- More blocks. -/
def Pre (m m' : Mem) : Prop := ∀ (b : Nat) (x : Blk), m.bl[b]? = some x → m'.bl[b]? = some x
theorem Pre.refl (m : Mem) : Pre m m := fun _ _ h => h
theorem Pre.trans {a b c : Mem} (h : Pre a b) (k : Pre b c) : Pre a c := fun i x hx => k i x (h i x hx)
theorem Pre.lt {m m' : Mem} (h : Pre m m') {b : Nat} (hb : b < m.bl.length) : b < m'.bl.length :=
  (List.getElem?_eq_some_iff.1 (h b _ (List.getElem?_eq_getElem hb))).1
theorem Pre.push (m : Mem) (x : Blk) : Pre m (m.push x) := fun b y h => by
  rw [bl_push, if_neg (by have := (List.getElem?_eq_some_iff.1 h).1; omega)]
  exact h

mutual
theorem Sits.pre {N : Nat} {m m' : Mem} (h : Pre m m') : ∀ (sh : Sh) {xs : List EV}, Sits N m sh xs → Sits N m' sh xs
  | .bool, _, k => k
  | .int _, _, k => k
  | .str, _, k => k
  | .flt _, _, k => k
  | .slice e, _, k => k.imp id fun ⟨b, len, cs, h1, h2, h3, h4, h5⟩ => ⟨b, len, cs, h1, h2, h3, ⟨h.lt h4.1, h4.2.imp id (h b _)⟩, fun c hc => ⟨Sits.pre h e (h5 c hc).1, (h5 c hc).2⟩⟩
  | .struct fs, _, k => SitsAll.pre h fs k
  | .arr n e, _, ⟨cs, h1, h2, h3⟩ => ⟨cs, h1, h2, fun c hc => ⟨Sits.pre h e (h3 c hc).1, (h3 c hc).2⟩⟩
theorem SitsAll.pre {N : Nat} {m m' : Mem} (h : Pre m m') : ∀ (fs : List Sh) {xs : List EV}, SitsAll N m fs xs → SitsAll N m' fs xs
  | [], _, k => k
  | f :: fs, _, ⟨a, b, h1, h2, h3, h4⟩ => ⟨a, b, h1, h2, Sits.pre h f h3, SitsAll.pre h fs h4⟩
end

/-- Nothing but read-only rows. -/
def RO (m : Mem) : Prop := ∀ (b : Nat) (x : Blk), m.bl[b]? = some x → (∃ cs, x = .cells cs 0 false) ∨ x = .dead 0

theorem RO.push {m : Mem} (h : RO m) {x : Blk} (hx : (∃ cs, x = .cells cs 0 false) ∨ x = .dead 0) : RO (m.push x) := fun b y hy => by
  rw [bl_push] at hy
  split at hy
  · cases hy; exact hx
  · exact h b y hy

def Inj.lend (j : Inj) (n g d s : Nat) : Inj := ⟨fun k => if k = n then g else j.blk k, fun k => if k = n then d else j.del k, fun k => if k = n then s else j.siz k, j.garb⟩

theorem Ext.lend (j : Inj) (m : Mem) (x : Blk) (g d s : Nat) : Ext j m (j.lend m.bl.length g d s) (m.push x) := by
  refine ⟨by simp [Mem.push], fun k hk => by rw [genAt_push m x k hk]; exact Nat.le_refl _, fun k gk hk _ hl => ?_, fun k hk hl => ?_, fun _ _ h => h⟩
  · obtain ⟨cs', rw', hl⟩ := hl
    rw [bl_push, if_neg (by omega)] at hl
    have : k ≠ m.bl.length := by omega
    exact ⟨⟨cs', rw', hl⟩, by simp [Inj.lend, this], by simp [Inj.lend, this], by simp [Inj.lend, this]⟩
  · have hk := genAt_lt hk
    obtain ⟨es, ck, hl⟩ := hl
    rw [bl_push, if_neg (by omega)] at hl
    have : k ≠ m.bl.length := by omega
    exact ⟨⟨es, ck, hl⟩, by simp [Inj.lend, this]⟩

section
variable {P : Program} {G : Globs} {base : Nat} {w0 w : World} {j : Inj} {m : Mem}

/-- As MemRel, and nothing was forgotten. -/
structure MR (G : Globs) (base : Nat) (w0 : World) (j : Inj) (m : Mem) (w : World) : Prop where
  rel : MemRel G base w0 j m w
  clean : ∀ R, j.garb R = none
/-- A row that is there is lent. -/
theorem MR.lend (hc : MR G base w0 j m w) (hro : RO m) {x : Blk} {g d s : Nat}
    (hx : x = .dead 0 ∨ ∃ cs c ty fr, x = .cells cs 0 false ∧ cs.all cellOk = true ∧ w.heap[g]? = some (.cells c ty fr) ∧ c.size = s ∧ RowIn j m cs c d) :
    MR G base w0 (j.lend m.bl.length g d s) (m.push x) w := by
  have h := hc.rel
  have hext := Ext.lend j m x g d s
  have old : ∀ k, k ≠ m.bl.length → (j.lend m.bl.length g d s).blk k = j.blk k ∧ (j.lend m.bl.length g d s).del k = j.del k ∧ (j.lend m.bl.length g d s).siz k = j.siz k :=
    fun k hk => by simp [Inj.lend, hk]
  have new : (j.lend m.bl.length g d s).blk m.bl.length = g ∧ (j.lend m.bl.length g d s).del m.bl.length = d ∧ (j.lend m.bl.length g d s).siz m.bl.length = s := by simp [Inj.lend]
  have hro' : RO (m.push x) := hro.push (by rcases hx with h | ⟨cs, _, _, _, h, _⟩; exact .inr h; exact .inl ⟨cs, h⟩)
  refine ⟨⟨h.below, h.big, fun q cs hg => ?_, fun k cs gen rw' hk => ?_, fun k es ck hk => ?_, fun k k' hkk h1 h2 => ?_, fun k t p hk => ?_, fun k cs gen rw' ck tyk frk hk hh hty => ?_, fun R n hR => ?_⟩, hc.clean⟩
  · obtain ⟨hlt, ho, c, ty, fr, hc, hr⟩ := h.globs q cs hg
    exact ⟨hlt, ho, c, ty, fr, hc, hr.ext hext⟩
  · have hrw : rw' = false := by
      rcases hro' k _ hk with ⟨_, e⟩ | e
      · cases e; rfl
      · cases e
    rw [bl_push] at hk
    split at hk
    · rename_i e
      subst e
      cases hk
      rcases hx with hx | ⟨cs', c, ty, fr, e, ho, hc, hs, hr⟩
      · cases hx
      · cases e
        refine ⟨ho, c, ty, fr, by rw [new.1]; exact hc, by rw [new.2.2]; exact hs, by rw [new.2.1]; exact hr.ext hext, fun e => by cases e⟩
    · rename_i e
      obtain ⟨ho, c, ty, fr, hc, hs, hr, hw⟩ := h.cells k cs gen rw' hk
      obtain ⟨e1, e2, e3⟩ := old k e
      exact ⟨ho, c, ty, fr, by rw [e1]; exact hc, by rw [e3]; exact hs, by rw [e2]; exact hr.ext hext, fun q => by rw [hrw] at q; cases q⟩
  · rcases hro' k _ hk with ⟨_, e⟩ | e <;> cases e
  · rcases h1 with ⟨a, b, h1⟩ | ⟨a, b, h1⟩
    · rcases hro' k _ h1 with ⟨_, e⟩ | e <;> cases e
    · rcases hro' k _ h1 with ⟨_, e⟩ | e <;> subst e <;> cases b
  · rcases hro' k _ hk with ⟨_, e⟩ | e <;> cases e
  · rcases hro' k _ hk with ⟨_, e⟩ | e
    · cases e
      exact absurd hty (by decide)
    · cases e
  · have := hc.clean R
    rw [show (j.lend m.bl.length g d s).garb R = j.garb R from rfl, this] at hR
    cases hR


/-- A row of the heap, out of cells that were read. -/
theorem row_of_cells {a : Addr} {n : Nat} {vs : List Value} (hn : 0 < n) (h : w.cells? base a n = some vs) : ∃ c ty fr, w.heap[a.block]? = some (.cells c ty fr) ∧ a = ⟨a.block, a.off, none⟩ ∧ vs.length = n ∧ a.off + n ≤ c.size ∧ ∀ i, i < n → c[a.off + i]? = vs[i]? := by
  obtain ⟨hb, hl, hc⟩ := World.cells?_some h
  have h0 := hc 0 hn
  rw [List.getElem?_eq_getElem (by omega)] at h0
  have hsp : a.spot = none ∧ ∃ c ty fr, w.heap[a.block]? = some (.cells c ty fr) := by
    unfold World.cell? at h0
    simp only [Addr.add, if_true] at h0
    split at h0
    · rename_i c ty fr hh
      split at h0
      · cases h0
      · rename_i hs
        exact ⟨by simpa using hs, c, ty, fr, hh⟩
    · cases h0
  obtain ⟨hs, c, ty, fr, hh⟩ := hsp
  have ha : a = ⟨a.block, a.off, none⟩ := by cases a; simp_all
  have hcell : ∀ i, i < n → c[a.off + i]? = vs[i]? := fun i hi => by
    have := hc i hi
    rw [ha, add_plain'] at this
    simpa only [World.cell?, hh, Option.isSome_none, Bool.false_eq_true, if_false] using this
  refine ⟨c, ty, fr, hh, ha, hl, ?_, hcell⟩
  have hlast := hcell (n - 1) (by omega)
  rw [List.getElem?_eq_getElem (by omega)] at hlast
  have := (Array.getElem?_eq_some_iff.1 hlast).1
  omega

/-- What laying gives. -/
def Laid (N : Nat) (G : Globs) (base : Nat) (w0 w : World) (j : Inj) (m : Mem) (sh : Sh) (cs : List Value) : Prop :=
  ∃ j' m' xs, Ext j m j' m' ∧ Pre m m' ∧ RO m' ∧ MR G base w0 j' m' w ∧ VsRel j' m' xs cs ∧ Sits N m' sh xs ∧ xs.length = sh.size ∧ xs.all cellOk = true
def LaidAll (N : Nat) (G : Globs) (base : Nat) (w0 w : World) (j : Inj) (m : Mem) (fs : List Sh) (cs : List Value) : Prop :=
  ∃ j' m' xs, Ext j m j' m' ∧ Pre m m' ∧ RO m' ∧ MR G base w0 j' m' w ∧ VsRel j' m' xs cs ∧ SitsAll N m' fs xs ∧ xs.length = Sh.sizes fs ∧ xs.all cellOk = true

/-- Rows of one shape, one behind the other. -/
theorem lay_row {N : Nat} {sh : Sh} {rows : List (List Value)} (hl : ∀ (i : Nat) (cs : List Value), rows[i]? = some cs → ∀ (j : Inj) (m : Mem), RO m → MR G base w0 j m w → Laid N G base w0 w j m sh cs) :
    ∀ (j : Inj) (m : Mem), RO m → MR G base w0 j m w → ∃ j' m' xss, Ext j m j' m' ∧ Pre m m' ∧ RO m' ∧ MR G base w0 j' m' w ∧ VsRel j' m' (List.flatten xss) rows.flatten ∧ (∀ x ∈ xss, Sits N m' sh x ∧ x.length = sh.size) ∧ xss.length = rows.length ∧ (List.flatten xss).all cellOk = true := by
  induction rows with
  | nil => intro j m hro hm; exact ⟨j, m, [], Ext.refl j m, Pre.refl m, hro, hm, rfl, by simp, rfl, rfl⟩
  | cons r rows ih =>
    intro j m hro hm
    obtain ⟨j1, m1, xs, e1, p1, ro1, hm1, hv1, hs1, hl1, ho1⟩ := hl 0 r rfl j m hro hm
    obtain ⟨j2, m2, xss, e2, p2, ro2, hm2, hv2, hs2, hl2, ho2⟩ := ih (fun i cs hi => hl (i + 1) cs (by simpa using hi)) j1 m1 ro1 hm1
    refine ⟨j2, m2, xs :: xss, e1.trans e2, p1.trans p2, ro2, hm2, ?_, ?_, by simp [hl2], ?_⟩
    · simp only [List.flatten_cons]
      exact (VsRel.ext e2 _ hv1).append hv2
    · intro x hx
      rcases List.mem_cons.1 hx with rfl | hx
      · exact ⟨Sits.pre p2 sh hs1, hl1⟩
      · exact hs2 x hx
    · simp only [List.flatten_cons, List.all_append, ho1, ho2, Bool.and_self]


theorem flatten_get {α : Type} {n : Nat} : ∀ {rows : List (List α)}, (∀ r ∈ rows, r.length = n) → ∀ (i q : Nat), q < n → rows.flatten[i * n + q]? = (rows[i]?).bind (·[q]?)
  | [], _, i, q, _ => by simp
  | r :: rows, h, i, q, hq => by
    have hr : r.length = n := h r (by simp)
    cases i with
    | zero => simp only [List.flatten_cons, Nat.zero_mul, Nat.zero_add, List.getElem?_cons_zero, Option.bind_some]; rw [List.getElem?_append_left (by omega)]
    | succ i =>
      have : (i + 1) * n + q = r.length + (i * n + q) := by rw [Nat.succ_mul]; omega
      rw [List.flatten_cons, this, List.getElem?_append_right (by omega), Nat.add_sub_cancel_left, flatten_get (fun x hx => h x (by simp [hx])) i q hq]
      simp

theorem flatten_len {α : Type} {n : Nat} : ∀ {rows : List (List α)}, (∀ r ∈ rows, r.length = n) → rows.flatten.length = rows.length * n
  | [], _ => by simp
  | r :: rows, h => by
    have ih := flatten_len (rows := rows) (fun x hx => h x (List.mem_cons_of_mem _ hx))
    rw [List.flatten_cons, List.length_append, List.length_cons, ih, h r (by simp), Nat.succ_mul]
    omega

/-- A value in one cell. -/
theorem laid_one {N : Nat} (hro : RO m) (hm : MR G base w0 j m w) {sh : Sh} {x : EV} {v : Value} (hx : VRel j m x v) (hs : Sits N m sh [x]) (hl : sh.size = 1) (ho : cellOk x = true) : Laid N G base w0 w j m sh [v] :=
  ⟨j, m, [x], Ext.refl j m, Pre.refl m, hro, hm, ⟨v, [], rfl, hx, rfl⟩, hs, hl.symm, by simp [ho]⟩

/-- A slice. -/
theorem lay_slice {N : Nat} {e : Sh} {b0 : Nat} {a : Addr} {len cap : Nat} (hesz : e.size ≠ 0) (hlc : len ≤ cap) (hmax : len ≤ N) {rows : List (List Value)} (hrl : rows.length = cap) (hcells : ∀ (i : Nat) (r : List Value), rows[i]? = some r → w.cells? b0 (a.add (i * e.size)) e.size = some r)
    (hrow : ∀ (i : Nat) (r : List Value), i < len → rows[i]? = some r → ∀ (j : Inj) (m : Mem), RO m → MR G base w0 j m w → Laid N G base w0 w j m e r) (hro : RO m) (hm : MR G base w0 j m w) :
    Laid N G base w0 w j m (.slice e) [.slice (some a) len cap] := by
  have hrlen : ∀ r ∈ rows, r.length = e.size := fun r hr => by
    obtain ⟨i, hi⟩ := List.getElem?_of_mem hr
    exact (World.cells?_some (hcells i r hi)).2.1
  obtain ⟨j1, m1, xss, e1, p1, ro1, hm1, hv1, hs1, hl1, ho1⟩ := lay_row (sh := e) (rows := rows.take len) (fun i cs hi => by
    rw [List.getElem?_take] at hi
    split at hi
    · rename_i hlt; exact hrow i cs hlt hi
    · cases hi) j m hro hm
  have hxl : xss.length = len := by rw [hl1, List.length_take]; omega
  have fin : ∀ (x : Blk) (g d s : Nat), MR G base w0 (j1.lend m1.bl.length g d s) (m1.push x) w → ((∃ cs, x = .cells cs 0 false) ∨ x = .dead 0) →
      (len = 0 ∨ x = .cells xss.flatten 0 false) → (cap = 0 ∨ (a = ⟨g, d, none⟩ ∧ d + cap * e.size ≤ s)) → Laid N G base w0 w j m (.slice e) [.slice (some a) len cap] := by
    intro x g d s hm2 hx hlen hcap
    have he := Ext.lend j1 m1 x g d s
    refine ⟨_, _, [.slice (some ⟨.mem m1.bl.length 0, 0⟩) len len e.size], e1.trans he, p1.trans (Pre.push m1 x), ro1.push hx, hm2, ⟨_, [], rfl, ⟨a, cap, rfl, hlc, Nat.le_refl _, ?_⟩, rfl⟩, .inr ⟨m1.bl.length, len, xss, rfl, hxl, hmax, ?_, ?_⟩, rfl, rfl⟩
    · refine ⟨by simp [Mem.push], Nat.zero_le _, fun _ => hcap.imp id fun ⟨h1, h2⟩ => ⟨?_, ?_⟩⟩
      · simp only [Inj.lend, if_true, Nat.add_zero]; exact h1
      · simp only [Inj.lend, if_true, Nat.add_zero]; exact h2
    · exact ⟨by simp [Mem.push], hlen.imp id fun h => by rw [bl_push, if_pos rfl, h]⟩
    · exact fun c hc => ⟨Sits.pre (Pre.push m1 x) e (hs1 c hc).1, (hs1 c hc).2⟩
  by_cases h0 : cap = 0
  · exact fin (.dead 0) 0 0 0 (hm1.lend ro1 (.inl rfl)) (.inr rfl) (.inl (by omega)) (.inl h0)
  · have hpos : 0 < e.size := by omega
    have hr0 : rows[0]? = some rows[0] := List.getElem?_eq_getElem (by omega)
    have hc0 := hcells 0 _ hr0
    rw [Nat.zero_mul] at hc0
    have hadd0 : a.add 0 = a := by simp [Addr.add]
    rw [hadd0] at hc0
    obtain ⟨c, ty, fr, hh, ha, _, _, _⟩ := row_of_cells hpos hc0
    have each : ∀ i, i < cap → a.off + i * e.size + e.size ≤ c.size ∧ ∀ q, q < e.size → c[a.off + i * e.size + q]? = (rows[i]?).bind (·[q]?) := by
      intro i hi
      have hri : rows[i]? = some rows[i] := List.getElem?_eq_getElem (by omega)
      have hci := hcells i _ hri
      rw [ha, add_plain'] at hci
      obtain ⟨c', ty', fr', hh', _, _, hsz, hq⟩ := row_of_cells hpos hci
      simp only at hh' hsz hq
      rw [hh] at hh'
      cases hh'
      refine ⟨hsz, fun q hq' => ?_⟩
      rw [hq q hq', hri]
      rfl
    have hsz : a.off + cap * e.size ≤ c.size := by
      have := (each (cap - 1) (by omega)).1
      have h1 : cap * e.size = (cap - 1) * e.size + e.size := by
        conv => lhs; rw [show cap = (cap - 1) + 1 by omega, Nat.succ_mul]
      omega
    have htake : ∀ r ∈ rows.take len, r.length = e.size := fun r hr => hrlen r (List.mem_of_mem_take hr)
    have hxlen : ∀ r ∈ xss, r.length = e.size := fun r hr => (hs1 r hr).2
    have hfl : xss.flatten.length = len * e.size := by rw [flatten_len hxlen, hxl]
    have hle : len * e.size ≤ cap * e.size := Nat.mul_le_mul_right _ hlc
    refine fin (.cells xss.flatten 0 false) a.block a.off c.size (hm1.lend ro1 (.inr ⟨_, c, ty, fr, rfl, ho1, hh, rfl, by rw [hfl]; omega, fun k x hk => ?_⟩)) (.inl ⟨_, rfl⟩) (.inr rfl) (.inr ⟨ha, hsz⟩)
    obtain ⟨v, hv, hr⟩ := hv1.get k x hk
    refine ⟨v, ?_, hr⟩
    have hkl : k < len * e.size := by rw [← hfl]; exact (List.getElem?_eq_some_iff.1 hk).1
    have hdm : k = (k / e.size) * e.size + k % e.size := by rw [Nat.mul_comm]; exact (Nat.div_add_mod k e.size).symm
    have hkd : k / e.size < len := Nat.div_lt_of_lt_mul (by rw [Nat.mul_comm]; exact hkl)
    have hkm : k % e.size < e.size := Nat.mod_lt _ hpos
    have h1 := (each (k / e.size) (by omega)).2 (k % e.size) hkm
    have h2 := flatten_get htake (k / e.size) (k % e.size) hkm
    rw [← hdm] at h2
    rw [h2, List.getElem?_take, if_pos hkd] at hv
    rw [← hv, ← h1]
    congr 1
    omega


theorem range_mapM_get {α : Type} {f : Nat → Option α} {n : Nat} {r : List α} (h : (List.range n).mapM f = some r) : r.length = n ∧ ∀ i, i < n → f i = r[i]? := by
  refine ⟨by simpa using mapM_some_length h, fun i hi => ?_⟩
  exact mapM_some_get h i i (by simp [hi])

/-- A measure of data: of its texts, its slices' lengths, its parts. -/
structure Bulky {H : Type} (B : DataW H → Nat) : Prop where
  str : ∀ bs, bs.length ≤ B (.lit (.string bs))
  len : ∀ es sp, es.length ≤ B (.slice es sp)
  elem : ∀ es sp, ∀ e ∈ es, B e ≤ B (.slice es sp)
  part : ∀ ps, ∀ p ∈ ps, B p ≤ B (.agg ps)

theorem trod_flt {H : Type} {enc : TypeId × Value → H} {b0 : Nat} {spare : Nat → Bool} {held : Bool} {fuel : Nat} {t : TypeId} {cs : List Value} {x : DataW H × List MemPlace} {k : FloatKind} (ht : P.underlying t = some (.float k)) (h : DataW.trod enc P w b0 spare held fuel t cs = some x) : ∃ n, cs = [.float k n] ∧ x = (.lit (.float k n), []) ∧ (Lit.float k n).wf = true := by
  cases fuel with
  | zero => simp [DataW.trod] at h
  | succ n =>
    unfold DataW.trod at h
    rw [ht] at h
    split at h <;> simp_all
mutual
/-- Whatever reads as data of a shape can be laid. -/
theorem lay {H : Type} (enc : TypeId × Value → H) {B : DataW H → Nat} (hB : Bulky B) {N b0 : Nat} {held : Bool} : ∀ (sh : Sh) {t : TypeId} {fuel : Nat} {cs : List Value} {x : DataW H × List MemPlace}, shOk P sh t = true → DataW.trod enc P w b0 (fun _ => true) held fuel t cs = some x → B x.1 ≤ N →
    ∀ (j : Inj) (m : Mem), RO m → MR G base w0 j m w → Laid N G base w0 w j m sh cs
  | .bool, t, fuel, cs, x, hk, h, hN, j, m, hro, hm => by
    simp only [shOk] at hk
    split at hk
    case h_2 => cases hk
    rename_i ht
    obtain ⟨b, rfl, _⟩ := DataW.trod_bool ht h
    exact laid_one hro hm (x := .bool b) rfl ⟨_, rfl⟩ rfl rfl
  | .int k, t, fuel, cs, x, hk, h, hN, j, m, hro, hm => by
    simp only [shOk] at hk
    split at hk
    case h_2 => cases hk
    rename_i k' ht
    have hk : k = k' := by simpa using hk
    subst hk
    obtain ⟨n, rfl, _, hwf⟩ := DataW.trod_int ht h
    exact laid_one hro hm (x := .int k n) rfl ⟨_, rfl, hwf⟩ rfl rfl
  | .str, t, fuel, cs, x, hk, h, hN, j, m, hro, hm => by
    simp only [shOk] at hk
    split at hk
    case h_2 => cases hk
    rename_i ht
    obtain ⟨s, rfl, rfl, hs⟩ := DataW.trod_string ht h
    exact laid_one hro hm (x := .str s.data.toList) rfl ⟨_, rfl, Nat.le_trans (hB.str _) hN⟩ rfl rfl
  | .flt k, t, fuel, cs, x, hk, h, hN, j, m, hro, hm => by
    simp only [shOk] at hk
    split at hk
    case h_2 => cases hk
    rename_i k' ht
    have hk : k = k' := by simpa using hk
    subst hk
    obtain ⟨n, rfl, _, hwf⟩ := trod_flt ht h
    exact laid_one hro hm (x := .flt k n) rfl ⟨_, rfl, hwf⟩ rfl rfl
  | .slice e, t, fuel, cs, x, hk, h, hN, j, m, hro, hm => by
    simp only [shOk] at hk
    split at hk
    case h_2 => cases hk
    rename_i u ht
    simp only [Bool.and_eq_true, beq_iff_eq, bne_iff_ne] at hk
    obtain ⟨⟨hu, hsz⟩, hne⟩ := hk
    rcases DataW.trod_slice ht h with ⟨rfl, _⟩ | ⟨a, len, cap, elems, rest, n, rfl, rfl, rfl, _, hlc, hmax, hel, hget, hrest, _⟩
    · exact laid_one hro hm (x := .slice none 0 0 0) ⟨rfl, rfl, rfl⟩ (.inl rfl) rfl rfl
    · obtain ⟨hrl, hrget⟩ := hrest rfl
      rw [hsz] at hget hrget
      have hall : ∀ i, i < cap → ∃ r y, w.cells? b0 (a.add (i * e.size)) e.size = some r ∧ DataW.trod enc P w b0 (fun _ => true) held n u r = some y := by
        intro i hi
        have : ∃ y, (w.cells? b0 (a.add (i * e.size)) e.size).bind (DataW.trod enc P w b0 (fun _ => true) held n u) = some y := by
          by_cases hil : i < len
          · exact ⟨elems[i], by rw [hget i hil]; exact List.getElem?_eq_getElem (by omega)⟩
          · refine ⟨rest[i - len], ?_⟩
            have := hrget (i - len) (by omega)
            rw [show len + (i - len) = i by omega] at this
            rw [this]
            exact List.getElem?_eq_getElem (by omega)
        obtain ⟨y, hy⟩ := this
        obtain ⟨r, hr, hry⟩ := Option.bind_eq_some_iff.1 hy
        exact ⟨r, y, hr, hry⟩
      let rows : List (List Value) := (List.range cap).map fun i => (w.cells? b0 (a.add (i * e.size)) e.size).getD []
      have hrows : ∀ (i : Nat) (r : List Value), rows[i]? = some r → i < cap ∧ w.cells? b0 (a.add (i * e.size)) e.size = some r := by
        intro i r hi
        simp only [rows, List.getElem?_map] at hi
        obtain ⟨i', hi', hr⟩ := Option.map_eq_some_iff.1 hi
        have hlt : i < cap := by have := (List.getElem?_eq_some_iff.1 hi').1; simpa using this
        have : i' = i := by rw [List.getElem?_range hlt] at hi'; exact (Option.some.inj hi').symm
        subst this
        obtain ⟨r', y, hr', _⟩ := hall i' hlt
        rw [hr'] at hr ⊢
        exact ⟨hlt, by rw [← hr]; rfl⟩
      have hlenN : len ≤ N := by
        have := hB.len (elems.map (·.1)) (rest.map (·.1))
        simp only [List.length_map, hel] at this
        exact Nat.le_trans this hN
      refine lay_slice (rows := rows) hne hlc hlenN (by simp [rows]) (fun i r hi => (hrows i r hi).2) (fun i r hi hr j m hro hm => ?_) hro hm
      obtain ⟨hlt, hc⟩ := hrows i r hr
      have hg := hget i hi
      rw [hc, Option.bind_some, List.getElem?_eq_getElem (by omega)] at hg
      exact lay enc hB e hu hg (Nat.le_trans (hB.elem _ _ _ (List.mem_map.2 ⟨_, List.getElem_mem (by omega), rfl⟩)) hN) j m hro hm
  | .struct fs, t, fuel, cs, x, hk, h, hN, j, m, hro, hm => by
    simp only [shOk] at hk
    split at hk
    case h_2 => cases hk
    rename_i gs ht
    simp only [Bool.and_eq_true, beq_iff_eq] at hk
    obtain ⟨hgs, hsz⟩ := hk
    obtain ⟨xs, n, rfl, rfl, hcl, hxl, hf⟩ := DataW.trod_struct ht h
    have := lays enc hB fs (N := N) (b0 := b0) (held := held) (gs := gs.toList) (n := 0) (fuel := n) (cs := cs) hgs (fun i f hi => by
      have hi' : gs[i]? = some f := by simpa using hi
      have hlt : i < gs.size := (Array.getElem?_eq_some_iff.1 hi').1
      exact ⟨xs[i], by rw [hf i f hi']; exact List.getElem?_eq_getElem (by omega), Nat.le_trans (hB.part _ _ (List.mem_map.2 ⟨_, List.getElem_mem (by omega), rfl⟩)) hN⟩) (by rw [hcl, hsz]; omega) j m hro hm
    rw [List.drop_zero] at this
    obtain ⟨j', m', ys, h1, h2, h3, h4, h5, h6, h7, h8⟩ := this
    exact ⟨j', m', ys, h1, h2, h3, h4, h5, h6, h7, h8⟩
  | .arr k e, t, fuel, cs, x, hk, h, hN, j, m, hro, hm => by
    simp only [shOk] at hk
    split at hk
    case h_2 => cases hk
    rename_i k' u ht
    simp only [Bool.and_eq_true, beq_iff_eq] at hk
    obtain ⟨⟨⟨rfl, hu⟩, hsu⟩, hst⟩ := hk
    obtain ⟨xs, n, rfl, rfl, hcl, hxl, hf⟩ := DataW.trod_array ht h
    rw [hsu] at hf
    let rows : List (List Value) := (List.range k').map fun i => (cs.drop (i * e.size)).take e.size
    have hrows : ∀ (i : Nat) (r : List Value), rows[i]? = some r → i < k' ∧ r = (cs.drop (i * e.size)).take e.size := by
      intro i r hi
      simp only [rows, List.getElem?_map] at hi
      obtain ⟨i', hi', hr⟩ := Option.map_eq_some_iff.1 hi
      have hlt : i < k' := by have := (List.getElem?_eq_some_iff.1 hi').1; simpa using this
      rw [List.getElem?_range hlt] at hi'
      cases hi'
      exact ⟨hlt, hr.symm⟩
    have hcs : rows.flatten = cs := by
      have hlen : ∀ r ∈ rows, r.length = e.size := fun r hr => by
        obtain ⟨i, hi⟩ := List.getElem?_of_mem hr
        obtain ⟨hlt, rfl⟩ := hrows i r hi
        have : (i + 1) * e.size ≤ k' * e.size := Nat.mul_le_mul_right _ hlt
        rw [Nat.succ_mul] at this
        simp only [List.length_take, List.length_drop, hcl, hst]
        omega
      by_cases h0 : e.size = 0
      · have h1 := flatten_len hlen
        rw [h0, Nat.mul_zero] at h1
        rw [hst, h0, Nat.mul_zero] at hcl
        rw [List.eq_nil_of_length_eq_zero h1, List.eq_nil_of_length_eq_zero hcl]
      · apply List.ext_getElem?
        intro q
        have hq : q = q / e.size * e.size + q % e.size := by rw [Nat.mul_comm]; exact (Nat.div_add_mod q e.size).symm
        have hm := Nat.mod_lt q (show 0 < e.size by omega)
        have hfl := flatten_get hlen (q / e.size) (q % e.size) hm
        rw [← hq] at hfl
        rw [hfl]
        by_cases hd : q / e.size < k'
        · simp only [rows, List.getElem?_map, List.getElem?_range hd, Option.map_some, Option.bind_some, List.getElem?_take, if_pos hm, List.getElem?_drop]
          rw [← hq]
        · have : k' * e.size ≤ q := by
            have := Nat.mul_le_mul_right e.size (Nat.le_of_not_lt hd)
            have h2 := Nat.div_mul_le_self q e.size
            omega
          rw [List.getElem?_eq_none (by simp [rows]; omega), List.getElem?_eq_none (by rw [hcl, hst]; exact this)]
          rfl
    obtain ⟨j1, m1, xss, h1, h2, h3, h4, h5, h6, h7, h8⟩ := lay_row (N := N) (sh := e) (rows := rows) (fun i r hi j m hro hm => by
      obtain ⟨hlt, rfl⟩ := hrows i r hi
      have hg := hf i hlt
      rw [List.getElem?_eq_getElem (by omega)] at hg
      exact lay enc hB e hu hg (Nat.le_trans (hB.part _ _ (List.mem_map.2 ⟨_, List.getElem_mem (by omega), rfl⟩)) hN) j m hro hm) j m hro hm
    rw [hcs] at h5
    exact ⟨j1, m1, xss.flatten, h1, h2, h3, h4, h5, ⟨xss, rfl, by rw [h7]; simp [rows], h6⟩, by rw [flatten_len (fun r hr => (h6 r hr).2), h7]; simp [rows, Sh.size], h8⟩
theorem lays {H : Type} (enc : TypeId × Value → H) {B : DataW H → Nat} (hB : Bulky B) {N b0 : Nat} {held : Bool} : ∀ (fs : List Sh) {gs : List Field} {n fuel : Nat} {cs : List Value}, shsOk P fs gs n = true →
    (∀ (i : Nat) (f : Field), gs[i]? = some f → ∃ x, DataW.trod enc P w b0 (fun _ => true) held fuel f.type ((cs.drop f.offset).take (P.cellsOf f.type)) = some x ∧ B x.1 ≤ N) → cs.length = n + Sh.sizes fs →
    ∀ (j : Inj) (m : Mem), RO m → MR G base w0 j m w → LaidAll N G base w0 w j m fs (cs.drop n)
  | [], gs, n, fuel, cs, hk, hf, hl, j, m, hro, hm => by
    refine ⟨j, m, [], Ext.refl j m, Pre.refl m, hro, hm, ?_, rfl, rfl, rfl⟩
    simp only [VsRel, List.drop_eq_nil_iff, Sh.sizes] at hl ⊢
    omega
  | f :: fs, [], n, fuel, cs, hk, hf, hl, j, m, hro, hm => by simp [shsOk] at hk
  | f :: fs, g :: gs, n, fuel, cs, hk, hf, hl, j, m, hro, hm => by
    simp only [shsOk, Bool.and_eq_true, beq_iff_eq] at hk
    obtain ⟨⟨⟨h1, h2⟩, h3⟩, h4⟩ := hk
    obtain ⟨x, hx, hxN⟩ := hf 0 g rfl
    rw [h2, h3] at hx
    obtain ⟨j1, m1, xs, e1, p1, ro1, hm1, hv1, hs1, hl1, ho1⟩ := lay enc hB f h1 hx hxN j m hro hm
    simp only [Sh.sizes] at hl
    obtain ⟨j2, m2, ys, e2, p2, ro2, hm2, hv2, hs2, hl2, ho2⟩ := lays enc hB fs (n := n + f.size) h4 (fun i g' hi => hf (i + 1) g' (by simpa using hi)) (by omega) j1 m1 ro1 hm1
    refine ⟨j2, m2, xs ++ ys, e1.trans e2, p1.trans p2, ro2, hm2, ?_, ⟨xs, ys, rfl, hl1, Sits.pre p2 f hs1, hs2⟩, by simp [hl1, hl2, Sh.sizes], by simp [ho1, ho2]⟩
    have : cs.drop n = (cs.drop n).take f.size ++ cs.drop (n + f.size) := by
      rw [← List.drop_drop, List.take_append_drop]
    rw [this]
    exact (VsRel.ext e2 _ hv1).append hv2
end

end
end Go.Ev
