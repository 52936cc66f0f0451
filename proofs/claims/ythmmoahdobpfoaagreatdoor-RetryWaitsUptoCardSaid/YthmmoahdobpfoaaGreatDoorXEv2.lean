/- The engine, part 2: when a state of the evaluator and a state of the machine are the same but for where blocks lie; reading, writing and laying blocks keeps that. There are no conditions. -/
import Derived.Test.YthmmoahdobpfoaaGreatDoorXEv1
import Derived.Below
import Derived.Laws.CopyRow
import Derived.Laws.Rows
set_option linter.unusedSectionVars false
set_option linter.unusedVariables false
set_option linter.unusedSimpArgs false
namespace Go.Ev
open Go.RowKit (Below)

/-- Where each block of the canonical memory lies in the machine's: its block, the offset of its first cell, how many cells the machine's block has. -/
structure Inj where
  blk : Nat → Nat
  del : Nat → Nat
  siz : Nat → Nat
  garb : Nat → Option Nat

def live (m : Mem) (b gen : Nat) : Prop := ∃ cs rw, m.bl[b]? = some (.cells cs gen rw)
/-- A map, or an iterator, is there. -/
def liveMap (m : Mem) (b : Nat) : Prop := ∃ (x : Blk) (_ : x.other = true), m.bl[b]? = some x

/-- How often a block has grown. -/
def genAt (m : Mem) (b : Nat) : Nat := match m.bl[b]? with
  | some x => x.gen
  | none => 0

theorem genAt_lt {m : Mem} {b : Nat} (h : 1 ≤ genAt m b) : b < m.bl.length := by
  unfold genAt at h
  split at h
  · rename_i x hx
    exact (List.getElem?_eq_some_iff.1 hx).1
  · omega

def AdRel (j : Inj) (m : Mem) (a : Ad) (a' : Addr) : Prop :=
  match a.base with
  | .glob g => a' = ⟨g, a.off, none⟩
  | .mem b gen => b < m.bl.length ∧ gen ≤ genAt m b ∧ (live m b gen → a' = ⟨j.blk b, j.del b + a.off, none⟩)
  | .weak w => ∃ R d n, j.garb R = some n ∧ a' = ⟨R, d + a.off, none⟩ ∧ d + w ≤ n

/-- The address of a slice, with room for its capacity. -/
def SlRel (j : Inj) (m : Mem) (a : Ad) (a' : Addr) (cap' esz : Nat) : Prop :=
  match a.base with
  | .glob g => cap' = 0 ∨ a' = ⟨g, a.off, none⟩
  | .mem b gen => b < m.bl.length ∧ gen ≤ genAt m b ∧ (live m b gen → cap' = 0 ∨ (a' = ⟨j.blk b, j.del b + a.off, none⟩ ∧ j.del b + a.off + cap' * esz ≤ j.siz b))
  | .weak w => cap' = 0 ∨ ∃ R d n, j.garb R = some n ∧ a' = ⟨R, d + a.off, none⟩ ∧ d + w ≤ n ∧ d + a.off + cap' * esz ≤ n

mutual
def VRel (j : Inj) (m : Mem) : EV → Value → Prop
  | .bool b, v => v = .bool b
  | .int k n, v => v = .int k n
  | .flt k b, v => v = .float k b
  | .str s, v => v = .string ⟨s.toArray⟩
  | .ptr none, v => v = .pointer none
  | .ptr (some a), v => ∃ a', v = .pointer (some a') ∧ AdRel j m a a'
  | .slice none len cap _, v => v = .slice none 0 0 ∧ len = 0 ∧ cap = 0
  | .slice (some a) len cap esz, v => ∃ a' cap', v = .slice (some a') len cap' ∧ cap ≤ cap' ∧ len ≤ cap ∧ SlRel j m a a' cap' esz
  | .map none, v => v = .map none
  | .map (some r), v => ∃ r', v = .map (some r') ∧ 1 ≤ genAt m r ∧ (liveMap m r → r' = j.blk r)
  | .func f c, v => ∃ c', v = .func (.func f) #[] c' ∧ VsRel j m c c'.toList
  | .nilFunc, v => v = .nilFunc
  | .iface t x, v => ∃ x', v = .iface t x' ∧ VRel j m x x'
  | .nilIface, v => v = .nilIface
  | .agg cs, v => ∃ c', v = .agg c' ∧ VsRel j m cs c'.toList ∧ cs.all cellOk = true
  | .tuple vs, v => ∃ c', v = .tuple c' ∧ VsRel j m vs c'.toList
  | .iter b, v => ∃ r, v = .pointer (some ⟨r, 0, none⟩) ∧ 1 ≤ genAt m b ∧ (liveMap m b → r = j.blk b)
def VsRel (j : Inj) (m : Mem) : List EV → List Value → Prop
  | [], l => l = []
  | x :: xs, l => ∃ y ys, l = y :: ys ∧ VRel j m x y ∧ VsRel j m xs ys
end

structure Ext (j : Inj) (m : Mem) (j' : Inj) (m' : Mem) : Prop where
  len : m.bl.length ≤ m'.bl.length
  gen : ∀ b, b < m.bl.length → genAt m b ≤ genAt m' b
  old : ∀ b gen, b < m.bl.length → gen ≤ genAt m b → live m' b gen → live m b gen ∧ j'.blk b = j.blk b ∧ j'.del b = j.del b ∧ j'.siz b = j.siz b
  map : ∀ b, 1 ≤ genAt m b → liveMap m' b → liveMap m b ∧ j'.blk b = j.blk b
  garb : ∀ R n, j.garb R = some n → j'.garb R = some n

theorem Ext.refl (j : Inj) (m : Mem) : Ext j m j m := ⟨Nat.le_refl _, fun _ _ => Nat.le_refl _, fun _ _ _ _ h => ⟨h, rfl, rfl, rfl⟩, fun _ _ h => ⟨h, rfl⟩, fun _ _ h => h⟩
theorem Ext.trans {j1 j2 j3 : Inj} {m1 m2 m3 : Mem} (h : Ext j1 m1 j2 m2) (k : Ext j2 m2 j3 m3) : Ext j1 m1 j3 m3 :=
  ⟨Nat.le_trans h.len k.len,
   fun b hb => Nat.le_trans (h.gen b hb) (k.gen b (Nat.lt_of_lt_of_le hb h.len)),
   fun b g hb hg hl => by
    obtain ⟨l2, e1, e2, e3⟩ := k.old b g (Nat.lt_of_lt_of_le hb h.len) (Nat.le_trans hg (h.gen b hb)) hl
    obtain ⟨l1, f1, f2, f3⟩ := h.old b g hb hg l2
    exact ⟨l1, e1.trans f1, e2.trans f2, e3.trans f3⟩,
   fun b hb hl => by
    obtain ⟨l2, e1⟩ := k.map b (Nat.le_trans hb (h.gen b (genAt_lt hb))) hl
    obtain ⟨l1, f1⟩ := h.map b hb l2
    exact ⟨l1, e1.trans f1⟩,
   fun R n hr => k.garb R n (h.garb R n hr)⟩

theorem AdRel.ext {j j' : Inj} {m m' : Mem} (h : Ext j m j' m') {a : Ad} {a' : Addr} (r : AdRel j m a a') : AdRel j' m' a a' := by
  unfold AdRel at *
  split
  · rename_i g hg; rw [hg] at r; exact r
  · rename_i b gen hg
    rw [hg] at r
    refine ⟨Nat.lt_of_lt_of_le r.1 h.len, Nat.le_trans r.2.1 (h.gen b r.1), fun hl => ?_⟩
    obtain ⟨l, e1, e2, _⟩ := h.old b gen r.1 r.2.1 hl
    rw [e1, e2]
    exact r.2.2 l
  · rename_i w hg
    rw [hg] at r
    obtain ⟨R, d, n, h1, h2⟩ := r
    exact ⟨R, d, n, h.garb R n h1, h2⟩

theorem SlRel.ext {j j' : Inj} {m m' : Mem} (h : Ext j m j' m') {a : Ad} {a' : Addr} {c e : Nat} (r : SlRel j m a a' c e) : SlRel j' m' a a' c e := by
  unfold SlRel at *
  split
  · rename_i g hg; rw [hg] at r; exact r
  · rename_i b gen hg
    rw [hg] at r
    refine ⟨Nat.lt_of_lt_of_le r.1 h.len, Nat.le_trans r.2.1 (h.gen b r.1), fun hl => ?_⟩
    obtain ⟨l, e1, e2, e3⟩ := h.old b gen r.1 r.2.1 hl
    rw [e1, e2, e3]
    exact r.2.2 l
  · rename_i w hg
    rw [hg] at r
    refine r.imp id fun ⟨R, d, n, h1, h2⟩ => ⟨R, d, n, h.garb R n h1, h2⟩

mutual
theorem VRel.ext {j j' : Inj} {m m' : Mem} (h : Ext j m j' m') : ∀ (x : EV) {v : Value}, VRel j m x v → VRel j' m' x v
  | .bool _, _, r => r
  | .int _ _, _, r => r
  | .flt _ _, _, r => r
  | .str _, _, r => r
  | .ptr none, _, r => r
  | .ptr (some _), _, ⟨a', e, r⟩ => ⟨a', e, r.ext h⟩
  | .slice none _ _ _, _, r => r
  | .slice (some _) _ _ _, _, ⟨a', c', e, h1, h2, r⟩ => ⟨a', c', e, h1, h2, r.ext h⟩
  | .map none, _, r => r
  | .map (some _), _, ⟨r', e, h1, h2⟩ => ⟨r', e, Nat.le_trans h1 (h.gen _ (genAt_lt h1)), fun hl => by
      obtain ⟨l, e1⟩ := h.map _ h1 hl
      rw [e1]
      exact h2 l⟩
  | .func _ c, _, ⟨c', e, r⟩ => ⟨c', e, VsRel.ext h c r⟩
  | .nilFunc, _, r => r
  | .iface _ x, _, ⟨x', e, r⟩ => ⟨x', e, VRel.ext h x r⟩
  | .nilIface, _, r => r
  | .agg cs, _, ⟨c', e, r, k⟩ => ⟨c', e, VsRel.ext h cs r, k⟩
  | .tuple cs, _, ⟨c', e, r⟩ => ⟨c', e, VsRel.ext h cs r⟩
  | .iter _, _, ⟨r', e, h1, h2⟩ => ⟨r', e, Nat.le_trans h1 (h.gen _ (genAt_lt h1)), fun hl => by
      obtain ⟨l, e1⟩ := h.map _ h1 hl
      rw [e1]
      exact h2 l⟩
theorem VsRel.ext {j j' : Inj} {m m' : Mem} (h : Ext j m j' m') : ∀ (xs : List EV) {l : List Value}, VsRel j m xs l → VsRel j' m' xs l
  | [], _, r => r
  | x :: xs, _, ⟨y, ys, e, r, rs⟩ => ⟨y, ys, e, VRel.ext h x r, VsRel.ext h xs rs⟩
end

theorem VsRel.length {j : Inj} {m : Mem} : ∀ {xs : List EV} {l : List Value}, VsRel j m xs l → l.length = xs.length
  | [], _, r => by simp only [VsRel] at r; subst r; rfl
  | x :: xs, _, r => by
    simp only [VsRel] at r
    obtain ⟨y, ys, rfl, _, rs⟩ := r
    simp [rs.length]

theorem VsRel.get {j : Inj} {m : Mem} : ∀ {xs : List EV} {l : List Value}, VsRel j m xs l → ∀ (i : Nat) (x : EV), xs[i]? = some x → ∃ v, l[i]? = some v ∧ VRel j m x v
  | [], _, r, i, x, h => by simp at h
  | y :: xs, _, r, i, x, h => by
    simp only [VsRel] at r
    obtain ⟨z, ys, rfl, r1, rs⟩ := r
    cases i with
    | zero => simp at h; subst h; exact ⟨z, rfl, r1⟩
    | succ i => simpa using rs.get i x (by simpa using h)

theorem VsRel.mk {j : Inj} {m : Mem} : ∀ {xs : List EV} {l : List Value}, l.length = xs.length → (∀ (i : Nat) (x : EV), xs[i]? = some x → ∃ v, l[i]? = some v ∧ VRel j m x v) → VsRel j m xs l
  | [], l, hl, _ => by simp only [VsRel]; exact List.eq_nil_of_length_eq_zero hl
  | x :: xs, l, hl, h => by
    simp only [VsRel]
    cases l with
    | nil => simp at hl
    | cons y ys =>
      obtain ⟨v, hv, hr⟩ := h 0 x rfl
      simp at hv
      subst hv
      exact ⟨y, ys, rfl, hr, VsRel.mk (by simpa using hl) fun i z hz => by simpa using h (i + 1) z (by simpa using hz)⟩

theorem VsRel.append {j : Inj} {m : Mem} : ∀ {xs ys : List EV} {l k : List Value}, VsRel j m xs l → VsRel j m ys k → VsRel j m (xs ++ ys) (l ++ k)
  | [], _, _, _, r, s => by simp only [VsRel] at r; subst r; exact s
  | x :: xs, _, _, _, r, s => by
    simp only [VsRel] at r
    obtain ⟨y, ys, rfl, r1, rs⟩ := r
    simp only [List.cons_append, VsRel]
    exact ⟨y, _, rfl, r1, rs.append s⟩

theorem VsRel.drop {j : Inj} {m : Mem} {xs : List EV} {l : List Value} (h : VsRel j m xs l) (n : Nat) : VsRel j m (xs.drop n) (l.drop n) :=
  .mk (by simp [h.length]) fun i x hx => by
    simp only [List.getElem?_drop] at hx ⊢
    exact h.get _ _ hx
theorem VsRel.take {j : Inj} {m : Mem} {xs : List EV} {l : List Value} (h : VsRel j m xs l) (n : Nat) : VsRel j m (xs.take n) (l.take n) :=
  .mk (by simp [h.length]) fun i x hx => by
    simp only [List.getElem?_take] at hx ⊢
    split at hx
    · rename_i hi; simp only [hi, if_true]; exact h.get _ _ hx
    · cases hx

theorem VRel.cellOk {j : Inj} {m : Mem} : ∀ {x : EV} {v : Value}, VRel j m x v → cellOk x = true → v.oneCell' = true
  | .bool _, _, h, _ => by simp only [VRel] at h; subst h; rfl
  | .int _ _, _, h, _ => by simp only [VRel] at h; subst h; rfl
  | .flt _ _, _, h, _ => by simp only [VRel] at h; subst h; rfl
  | .str _, _, h, _ => by simp only [VRel] at h; subst h; rfl
  | .ptr none, _, h, _ => by simp only [VRel] at h; subst h; rfl
  | .ptr (some _), _, h, _ => by simp only [VRel] at h; obtain ⟨_, rfl, _⟩ := h; rfl
  | .slice none _ _ _, _, h, _ => by simp only [VRel] at h; obtain ⟨rfl, _⟩ := h; rfl
  | .slice (some _) _ _ _, _, h, _ => by simp only [VRel] at h; obtain ⟨_, _, rfl, _⟩ := h; rfl
  | .map none, _, h, _ => by simp only [VRel] at h; subst h; rfl
  | .map (some _), _, h, _ => by simp only [VRel] at h; obtain ⟨_, rfl, _⟩ := h; rfl
  | .func _ _, _, h, _ => by simp only [VRel] at h; obtain ⟨_, rfl, _⟩ := h; rfl
  | .nilFunc, _, h, _ => by simp only [VRel] at h; subst h; rfl
  | .iface _ _, _, h, _ => by simp only [VRel] at h; obtain ⟨_, rfl, _⟩ := h; rfl
  | .nilIface, _, h, _ => by simp only [VRel] at h; subst h; rfl
  | .agg _, _, _, k => by simp [Ev.cellOk] at k
  | .tuple _, _, _, k => by simp [Ev.cellOk] at k
  | .iter _, _, _, k => by simp [Ev.cellOk] at k

theorem cells_of_one {v : Value} (h : v.oneCell' = true) : v.cells = #[v] := by
  cases v <;> first | rfl | simp [Value.oneCell'] at h

theorem VRel.oneCell {j : Inj} {m : Mem} {x : EV} {v : Value} (h : VRel j m x v) (k : ∀ cs, x ≠ .agg cs) : v.cells = #[v] := by
  cases x with
  | agg cs => exact absurd rfl (k cs)
  | tuple vs =>
    simp only [VRel] at h
    obtain ⟨c', rfl, _⟩ := h
    rfl
  | iter b =>
    simp only [VRel] at h
    obtain ⟨r, rfl, _⟩ := h
    rfl
  | _ => exact cells_of_one (h.cellOk rfl)

/-- A value's cells. -/
theorem VRel.cells {j : Inj} {m : Mem} {x : EV} {v : Value} (h : VRel j m x v) : VsRel j m x.cells v.cells.toList := by
  cases x with
  | agg cs =>
    simp only [VRel] at h
    obtain ⟨c', rfl, r, _⟩ := h
    exact r
  | _ =>
    have : v.cells = #[v] := VRel.oneCell h (by intro cs e; cases e)
    rw [this]
    simp only [EV.cells, VsRel]
    exact ⟨v, [], rfl, h, rfl⟩

/-- A row of cells lies in a block of the machine, from an offset on. -/
def RowIn (j : Inj) (m : Mem) (cs : List EV) (c : Array Value) (d : Nat) : Prop :=
  d + cs.length ≤ c.size ∧ ∀ (i : Nat) (x : EV), cs[i]? = some x → ∃ v, c[d + i]? = some v ∧ VRel j m x v

/-- No cell is kept from writing; what stands behind the last one may be marked. -/
def Free (fr : Nat × Nat) (n : Nat) : Prop := fr.1 = fr.2 ∨ n ≤ fr.1
theorem Free.cells {fr : Nat × Nat} {n : Nat} (h : Free fr n) : ∀ o, o < n → ¬ (fr.1 ≤ o ∧ o < fr.2) := by
  intro o ho h2
  rcases h with h | h <;> omega

structure MemRel (G : Globs) (base : Nat) (w0 : World) (j : Inj) (m : Mem) (w : World) : Prop where
  below : Below base w0 w
  big : base ≤ w.heap.size
  globs : ∀ g cs, G g = some cs → g < base ∧ cs.all cellOk = true ∧ ∃ c ty fr, w.heap[g]? = some (.cells c ty fr) ∧ RowIn j m cs c 0
  cells : ∀ b cs gen rw, m.bl[b]? = some (.cells cs gen rw) → cs.all cellOk = true ∧ ∃ c ty fr, w.heap[j.blk b]? = some (.cells c ty fr) ∧ c.size = j.siz b ∧ RowIn j m cs c (j.del b) ∧
    (rw = true → base ≤ j.blk b ∧ Free fr c.size)
  maps : ∀ b es ck, m.bl[b]? = some (.map es ck) → base ≤ j.blk b ∧ ∃ es', w.heap[j.blk b]? = some (.map es' ck) ∧ es'.size = es.length ∧
    ∀ (i : Nat) (e : Ent), es[i]? = some e → ∃ e' : MapEntry, es'[i]? = some e' ∧ VRel j m e.key e'.key ∧ VRel j m e.val e'.val ∧ e'.born = e.born
  inj : ∀ b b', b ≠ b' → (∃ cs gen, m.bl[b]? = some (.cells cs gen true)) ∨ liveMap m b → (∃ cs gen rw, m.bl[b']? = some (.cells cs gen rw)) ∨ liveMap m b' → j.blk b ≠ j.blk b'
  other : ∀ (b : Nat) (s : List UInt8) (p : Nat), m.bl[b]? = some (Blk.striter s p) → base ≤ j.blk b ∧ w.heap[j.blk b]? = some (.stringIter ⟨s.toArray⟩ p)
  typed : ∀ b cs gen rw c ty fr, m.bl[b]? = some (.cells cs gen rw) → w.heap[j.blk b]? = some (.cells c ty fr) → typeK ≤ gen → ty + 1 = gen / typeK ∧ j.del b = 0 ∧ (gen % typeK = 0 → c.size = cs.length)
  garb : ∀ R n, j.garb R = some n → base ≤ R ∧ (∃ c ty fr, w.heap[R]? = some (.cells c ty fr) ∧ c.size = n ∧ Free fr c.size) ∧ ∀ b, (∃ cs gen rw, m.bl[b]? = some (.cells cs gen rw)) ∨ liveMap m b → j.blk b ≠ R

theorem RowIn.ext {j j' : Inj} {m m' : Mem} (h : Ext j m j' m') {cs : List EV} {c : Array Value} {d : Nat} (r : RowIn j m cs c d) : RowIn j' m' cs c d :=
  ⟨r.1, fun i x hx => let ⟨v, hv, hr⟩ := r.2 i x hx; ⟨v, hv, VRel.ext h x hr⟩⟩

section
variable {P : Program} {G : Globs} {base : Nat} {w0 w : World} {j : Inj} {m : Mem}

theorem add_plain' (g o n : Nat) : Addr.add ⟨g, o, none⟩ n = ⟨g, o + n, none⟩ := by
  unfold Addr.add
  split
  · simp_all
  · rfl

/-- The row that an address leads into, in the machine. -/
theorem MemRel.row (h : MemRel G base w0 j m w) {a : Ad} {a' : Addr} {cs : List EV} (hr : m.row G a.base = some cs) (ha : AdRel j m a a') :
    cs.all cellOk = true ∧ ∃ c ty fr d, a' = ⟨a'.block, d + a.off, none⟩ ∧ w.heap[a'.block]? = some (.cells c ty fr) ∧ RowIn j m cs c d := by
  unfold Mem.row at hr
  unfold AdRel at ha
  split at hr
  · rename_i g hg
    rw [hg] at ha
    simp only at ha
    obtain ⟨_, ho, c, ty, fr, hc, hrow⟩ := h.globs g cs hr
    subst ha
    exact ⟨ho, c, ty, fr, 0, by simp, hc, hrow⟩
  · rename_i b gen hg
    rw [hg] at ha
    simp only at ha
    split at hr
    · rename_i cs' gen' rw' hb
      split at hr
      · rename_i hgen
        subst hgen
        cases hr
        obtain ⟨ho, c, ty, fr, hc, hs, hrow, _⟩ := h.cells b cs _ rw' hb
        have := ha.2.2 ⟨cs, rw', hb⟩
        subst this
        exact ⟨ho, c, ty, fr, j.del b, rfl, hc, hrow⟩
      · cases hr
    · cases hr
  · cases hr

theorem MemRel.get (h : MemRel G base w0 j m w) {a : Ad} {a' : Addr} {x : EV} (hg : m.get G a = some x) (ha : AdRel j m a a') :
    cellOk x = true ∧ ∃ v, w.cell? a' = some v ∧ VRel j m x v := by
  unfold Mem.get at hg
  obtain ⟨cs, hr, hx⟩ := Option.bind_eq_some_iff.1 hg
  obtain ⟨ho, c, ty, fr, d, e, hc, hrow⟩ := h.row hr ha
  obtain ⟨v, hv, hvr⟩ := hrow.2 _ _ hx
  refine ⟨List.all_eq_true.1 ho x (List.mem_of_getElem? hx), v, ?_, hvr⟩
  rw [e]
  simp only [World.cell?, hc]
  simpa using hv

theorem MemRel.getN (h : MemRel G base w0 j m w) {a : Ad} {a' : Addr} {n : Nat} {cs : List EV} (hg : m.getN G a n = some cs) (ha : n = 0 ∨ AdRel j m a a') :
    cs.length = n ∧ cs.all cellOk = true ∧ ∃ vs : List Value, VsRel j m cs vs ∧ (∀ i v, vs[i]? = some v → w.cell? (a'.add i) = some v) ∧ (loadCells a' n).run P w = .ok vs.toArray w := by
  unfold Mem.getN at hg
  split at hg
  · rename_i h0
    subst h0
    cases hg
    exact ⟨rfl, by simp, [], by simp [VsRel], by simp, by simp [loadCells, loadCellsFrom]⟩
  rename_i hn0
  obtain ⟨row, hr, hx⟩ := Option.bind_eq_some_iff.1 hg
  split at hx
  case isFalse => cases hx
  rename_i hle
  cases hx
  have hlen : ((row.drop a.off).take n).length = n := by simp; omega
  rcases ha with rfl | ha
  · exact absurd rfl hn0
  obtain ⟨ho, c, ty, fr, d, e, hc, hrow⟩ := h.row hr ha
  have hsz : d + a.off + n ≤ c.size := by have := hrow.1; omega
  have hcell : ∀ i v, ((c.toList.drop (d + a.off)).take n)[i]? = some v → w.cell? (a'.add i) = some v := by
    intro i v hi
    simp only [List.getElem?_take, List.getElem?_drop] at hi
    split at hi
    · rw [e, add_plain']
      simp only [World.cell?, hc]
      simpa using hi
    · cases hi
  have hvl : ((c.toList.drop (d + a.off)).take n).length = n := by simp; omega
  refine ⟨hlen, ?_, (c.toList.drop (d + a.off)).take n, ?_, hcell, ?_⟩
  · exact List.all_eq_true.2 fun x hx => List.all_eq_true.1 ho x (List.mem_of_mem_drop (List.mem_of_mem_take hx))
  · refine .mk (by rw [hlen, hvl]) fun i x hi => ?_
    simp only [List.getElem?_take, List.getElem?_drop] at hi ⊢
    split at hi
    · rename_i hin
      simp only [hin, if_true]
      obtain ⟨v, hv, hvr⟩ := hrow.2 _ _ hi
      exact ⟨v, by simpa [Nat.add_assoc] using hv, hvr⟩
    · cases hi
  · have := run_loadCells_list (P := P) w a' _ hcell
    rwa [hvl] at this

/-! ### A block is replaced -/
theorem bl_set {m : Mem} {b : Nat} {x : Blk} (hb : b < m.bl.length) (k : Nat) : (m.bl.set b x)[k]? = if b = k then some x else m.bl[k]? := by
  rw [List.getElem?_set]
  split
  · subst_vars; simp [hb]
  · rfl

theorem genAt_set {m : Mem} {b : Nat} {x : Blk} (hb : b < m.bl.length) (k low : Nat) : genAt ⟨m.bl.set b x, low⟩ k = if b = k then x.gen else genAt m k := by
  unfold genAt
  rw [bl_set hb]
  by_cases e : b = k
  · simp [e]
  · simp [e]

theorem Below.setRow' {B : Nat} {a w : World} (h : Below B a w) {g : Nat} (hg : B ≤ g) (c : Array Value) : Below B a (w.setRow g c) :=
  ⟨h.os, h.tape, h.output, by simpa using h.size, fun k hk => (setRow_other w g k c (by omega)).trans (h.block k hk)⟩

/-- A row of cells that may be written is replaced: by cells of the same count of growths where they lay, or of the next one at another offset. -/
theorem MemRel.rewrite (h : MemRel G base w0 j m w) {b : Nat} {cs0 cs : List EV} {gen0 gen : Nat} (hb : m.bl[b]? = some (.cells cs0 gen0 true))
    {c0 c : Array Value} {ty : TypeId} {fr : Nat × Nat} (hc0 : w.heap[j.blk b]? = some (.cells c0 ty fr)) (hsz : c.size = c0.size) (d : Nat)
    (hgen : gen = gen0 ∧ d = j.del b ∧ cs.length = cs0.length ∨ gen = gen0 + 1 ∧ (gen0 + 1) / typeK = gen0 / typeK ∧ (typeK ≤ gen0 → d = 0)) (low : Nat)
    (hok : cs.all cellOk = true) (hrow : RowIn j m cs c d) :
    ∃ j', MemRel G base w0 j' ⟨m.bl.set b (.cells cs gen true), low⟩ (w.setRow (j.blk b) c) ∧ Ext j m j' ⟨m.bl.set b (.cells cs gen true), low⟩ ∧
      j'.blk = j.blk ∧ j'.siz = j.siz ∧ j'.del b = d := by
  have hlt : b < m.bl.length := (List.getElem?_eq_some_iff.1 hb).1
  obtain ⟨_, c1, ty1, fr1, hc1, hs1, hrow1, hw1⟩ := h.cells b _ _ _ hb
  rw [hc0] at hc1
  cases hc1
  obtain ⟨hbase, hfree⟩ := hw1 rfl
  let j' : Inj := ⟨j.blk, fun k => if k = b then d else j.del k, j.siz, j.garb⟩
  have hext : Ext j m j' ⟨m.bl.set b (.cells cs gen true), low⟩ := by
    refine ⟨by simp, fun k hk => ?_, fun k gk hk hgk hl => ?_, fun k hk hl => ?_, fun _ _ h => h⟩
    · rw [genAt_set hlt]
      split
      · rename_i e
        subst e
        simp only [genAt, hb, Blk.gen]
        rcases hgen with ⟨rfl, _⟩ | ⟨rfl, _⟩ <;> omega
      · exact Nat.le_refl _
    · obtain ⟨cs', rw', hl⟩ := hl
      simp only [bl_set hlt] at hl
      split at hl
      · rename_i e
        subst e
        cases hl
        simp only [genAt, hb, Blk.gen] at hgk
        rcases hgen with ⟨rfl, rfl, _⟩ | ⟨rfl, _⟩
        · exact ⟨⟨cs0, true, hb⟩, rfl, by simp [j'], rfl⟩
        · omega
      · rename_i e
        exact ⟨⟨cs', rw', hl⟩, rfl, by simp [j', Ne.symm e], rfl⟩
    · obtain ⟨es, ck, hl⟩ := hl
      simp only [bl_set hlt] at hl
      split at hl
      · cases hl; cases ck
      · exact ⟨⟨es, ck, hl⟩, rfl⟩
  refine ⟨j', ?_, hext, rfl, rfl, by simp [j']⟩
  have hne : ∀ k, k ≠ b → (∃ cs gen rw, m.bl[k]? = some (.cells cs gen rw)) ∨ liveMap m k → (w.setRow (j.blk b) c).heap[j.blk k]? = w.heap[j.blk k]? := fun k hk hl =>
    setRow_other w _ _ c (fun e => h.inj b k (Ne.symm hk) (.inl ⟨cs0, gen0, hb⟩) hl e.symm)
  refine ⟨Below.setRow' h.below hbase c, by simpa using h.big, fun g' cs' hg' => ?_, fun k cs' gen' rw' hk => ?_, fun k es ck hk => ?_, fun k k' hkk h1 h2 => ?_, fun k s p hk => ?_, fun k cs' gen' rw' ck tyk frk hk hh hty => ?_, fun R n hR => ?_⟩
  · obtain ⟨hlt', ho, cg, tyg, frg, hcg, hrg⟩ := h.globs g' cs' hg'
    exact ⟨hlt', ho, cg, tyg, frg, (setRow_other w _ _ c (by omega)).trans hcg, hrg.ext hext⟩
  · simp only [bl_set hlt] at hk
    split at hk
    · rename_i e
      subst e
      cases hk
      refine ⟨hok, c, ty, fr, setRow_heap w _ c0 c ty fr hc0, hsz.trans hs1, ?_, fun _ => ⟨hbase, by rw [hsz]; exact hfree⟩⟩
      have := hrow.ext hext
      simpa [j'] using this
    · rename_i e
      obtain ⟨ho, ck, tyk, frk, hck, hsk, hrk, hwk⟩ := h.cells k cs' gen' rw' hk
      refine ⟨ho, ck, tyk, frk, (hne k (Ne.symm e) (.inl ⟨cs', gen', rw', hk⟩)).trans hck, hsk, ?_, hwk⟩
      have := hrk.ext hext
      simpa [j', Ne.symm e] using this
  · simp only [bl_set hlt] at hk
    split at hk
    · cases hk
    · rename_i e
      obtain ⟨hb1, es', hes, hl, hel⟩ := h.maps k es ck hk
      refine ⟨hb1, es', (hne k (Ne.symm e) (.inr ⟨_, rfl, hk⟩)).trans hes, hl, fun i x hi => ?_⟩
      obtain ⟨e', h1, h2, h3, h4⟩ := hel i x hi
      exact ⟨e', h1, VRel.ext hext _ h2, VRel.ext hext _ h3, h4⟩
  · have r1 : (∃ cs gen, m.bl[k]? = some (.cells cs gen true)) ∨ liveMap m k := by
      rcases h1 with ⟨cs', gen', h1⟩ | ⟨es, ck, h1⟩
      · simp only [bl_set hlt] at h1
        split at h1
        · rename_i e; subst e; exact .inl ⟨cs0, gen0, hb⟩
        · exact .inl ⟨cs', gen', h1⟩
      · simp only [bl_set hlt] at h1
        split at h1
        · cases h1; cases ck
        · exact .inr ⟨es, ck, h1⟩
    have r2 : (∃ cs gen rw, m.bl[k']? = some (.cells cs gen rw)) ∨ liveMap m k' := by
      rcases h2 with ⟨cs', gen', rw', h2⟩ | ⟨es, ck, h2⟩
      · simp only [bl_set hlt] at h2
        split at h2
        · rename_i e; subst e; exact .inl ⟨cs0, gen0, true, hb⟩
        · exact .inl ⟨cs', gen', rw', h2⟩
      · simp only [bl_set hlt] at h2
        split at h2
        · cases h2; cases ck
        · exact .inr ⟨es, ck, h2⟩
    exact h.inj k k' hkk r1 r2
  · simp only [bl_set hlt] at hk
    split at hk
    · cases hk
    · rename_i e
      obtain ⟨q1, q2⟩ := h.other k s p hk
      exact ⟨q1, (hne k (Ne.symm e) (.inr ⟨_, rfl, hk⟩)).trans q2⟩
  · simp only [bl_set hlt] at hk
    split at hk
    · rename_i e
      subst e
      cases hk
      rw [setRow_heap w _ c0 c ty fr hc0] at hh
      cases hh
      rcases hgen with ⟨rfl, rfl, hcl⟩ | ⟨rfl, hq, hd0⟩
      · obtain ⟨t1, t3, t4⟩ := h.typed b cs0 gen true c0 ty fr hb hc0 hty
        exact ⟨t1, by simpa [j'] using t3, fun hm => by rw [hsz, t4 hm, hcl]⟩
      · have hk0 : typeK ≤ gen0 := by
          simp only [typeK] at hty hq ⊢
          omega
        obtain ⟨t1, _, _⟩ := h.typed b cs0 gen0 true c0 ty fr hb hc0 hk0
        refine ⟨by rw [hq]; exact t1, by simpa [j'] using hd0 hk0, fun hm => ?_⟩
        simp only [typeK] at hm hq
        omega
    · rename_i e
      rw [hne k (Ne.symm e) (.inl ⟨cs', gen', rw', hk⟩)] at hh
      obtain ⟨t1, t2⟩ := h.typed k cs' gen' rw' ck tyk frk hk hh hty
      exact ⟨t1, by simpa [j', Ne.symm e] using t2.1, t2.2⟩
  · obtain ⟨r1, ⟨cR, tR, fR, r2, r3⟩, r4⟩ := h.garb R n hR
    refine ⟨r1, ⟨cR, tR, fR, (setRow_other w _ _ c fun e => r4 b (.inl ⟨cs0, gen0, true, hb⟩) e.symm).trans r2, r3⟩, fun k hk => r4 k ?_⟩
    rcases hk with ⟨cs', gen', rw', hk⟩ | ⟨es, ck, hk⟩
    · simp only [bl_set hlt] at hk
      split at hk
      · rename_i e; subst e; exact .inl ⟨cs0, gen0, true, hb⟩
      · exact .inl ⟨cs', gen', rw', hk⟩
    · simp only [bl_set hlt] at hk
      split at hk
      · cases hk; cases ck
      · exact .inr ⟨es, ck, hk⟩

/-! ### A block is laid -/
theorem bl_push (m : Mem) (x : Blk) (k : Nat) : (m.push x).bl[k]? = if k = m.bl.length then some x else m.bl[k]? := by
  simp only [Mem.push, List.getElem?_append]
  split
  · rename_i h
    rw [if_neg (by omega)]
  · rename_i h
    split
    · rename_i e; simp [e]
    · rw [List.getElem?_eq_none (by simp; omega), List.getElem?_eq_none (by omega)]

theorem genAt_push (m : Mem) (x : Blk) (k : Nat) (h : k < m.bl.length) : genAt (m.push x) k = genAt m k := by
  unfold genAt
  rw [bl_push, if_neg (by omega)]

/-- Where the machine has laid a block, and the canonical memory too. -/
def Inj.lay (j : Inj) (n g s : Nat) : Inj := ⟨fun k => if k = n then g else j.blk k, fun k => if k = n then 0 else j.del k, fun k => if k = n then s else j.siz k, j.garb⟩

theorem Ext.push (j : Inj) (m : Mem) (x : Blk) (g s : Nat) : Ext j m (j.lay m.bl.length g s) (m.push x) := by
  refine ⟨by simp [Mem.push], fun k hk => by rw [genAt_push m x k hk]; exact Nat.le_refl _, fun k gk hk _ hl => ?_, fun k hk hl => ?_, fun _ _ h => h⟩
  · obtain ⟨cs', rw', hl⟩ := hl
    rw [bl_push, if_neg (by omega)] at hl
    have : k ≠ m.bl.length := by omega
    exact ⟨⟨cs', rw', hl⟩, by simp [Inj.lay, this], by simp [Inj.lay, this], by simp [Inj.lay, this]⟩
  · have hk := genAt_lt hk
    obtain ⟨es, ck, hl⟩ := hl
    rw [bl_push, if_neg (by omega)] at hl
    have : k ≠ m.bl.length := by omega
    exact ⟨⟨es, ck, hl⟩, by simp [Inj.lay, this]⟩

theorem MemRel.blk_lt (h : MemRel G base w0 j m w) {k : Nat} (hk : (∃ cs gen rw, m.bl[k]? = some (.cells cs gen rw)) ∨ liveMap m k) : j.blk k < w.heap.size := by
  rcases hk with ⟨cs, gen, rw', hk⟩ | ⟨es, ck, hk⟩
  · obtain ⟨_, c, ty, fr, hc, _⟩ := h.cells k cs gen rw' hk
    exact (Array.getElem?_eq_some_iff.1 hc).1
  · cases es with
    | map es c =>
      obtain ⟨_, es', hes, _⟩ := h.maps k es c hk
      exact (Array.getElem?_eq_some_iff.1 hes).1
    | striter s p =>
      obtain ⟨_, hes⟩ := h.other k s p hk
      exact (Array.getElem?_eq_some_iff.1 hes).1
    | _ => cases ck

/-- What a block of the canonical memory asks of the one that the machine lays. -/
def BlkRel (j : Inj) (m : Mem) : Blk → Obj → Nat → Prop
  | .cells cs gen rw, o, s => cs.all cellOk = true ∧ ∃ c ty fr, o = .cells c ty fr ∧ c.size = s ∧ RowIn j m cs c 0 ∧ (rw = true → Free fr c.size) ∧ (typeK ≤ gen → ty + 1 = gen / typeK ∧ (gen % typeK = 0 → c.size = cs.length))
  | .map es ck, o, _ => es = [] ∧ o = .map #[] ck
  | .striter s p, o, _ => o = .stringIter ⟨s.toArray⟩ p
  | _, _, _ => False

theorem heap_new (w : World) (o : Obj) (k : Nat) : (w.alloc o).heap[k]? = if k = w.heap.size then some o else w.heap[k]? := by
  simp only [World.alloc, Array.getElem?_push]

theorem MemRel.push (h : MemRel G base w0 j m w) {x : Blk} {o : Obj} {s : Nat} (hx : BlkRel j m x o s) :
    MemRel G base w0 (j.lay m.bl.length w.heap.size s) (m.push x) (w.alloc o) := by
  have hext := Ext.push j m x w.heap.size s
  have keep : ∀ k, k < w.heap.size → (w.alloc o).heap[k]? = w.heap[k]? := fun k hk => by rw [heap_new, if_neg (by omega)]
  have old : ∀ k, k ≠ m.bl.length → (j.lay m.bl.length w.heap.size s).blk k = j.blk k ∧ (j.lay m.bl.length w.heap.size s).del k = j.del k ∧ (j.lay m.bl.length w.heap.size s).siz k = j.siz k :=
    fun k hk => by simp [Inj.lay, hk]
  have new : (j.lay m.bl.length w.heap.size s).blk m.bl.length = w.heap.size ∧ (j.lay m.bl.length w.heap.size s).del m.bl.length = 0 ∧ (j.lay m.bl.length w.heap.size s).siz m.bl.length = s := by simp [Inj.lay]
  refine ⟨h.below.alloc h.big o, by simpa using Nat.le_succ_of_le h.big, fun g cs hg => ?_, fun k cs gen rw' hk => ?_, fun k es ck hk => ?_, fun k k' hkk h1 h2 => ?_, fun k t p hk => ?_, fun k cs gen rw' ck tyk frk hk hh hty => ?_, fun R n hR => ?_⟩
  · obtain ⟨hlt, ho, c, ty, fr, hc, hr⟩ := h.globs g cs hg
    exact ⟨hlt, ho, c, ty, fr, (keep g (Nat.lt_of_lt_of_le hlt h.big)).trans hc, hr.ext hext⟩
  · rw [bl_push] at hk
    split at hk
    · rename_i e
      subst e
      cases hk
      obtain ⟨ho, c, ty, fr, rfl, hs, hr, hf, _⟩ := hx
      refine ⟨ho, c, ty, fr, by rw [new.1, heap_new, if_pos rfl], by rw [new.2.2]; exact hs, ?_, fun e => ⟨by rw [new.1]; exact h.big, hf e⟩⟩
      rw [new.2.1]
      exact hr.ext hext
    · rename_i e
      obtain ⟨ho, c, ty, fr, hc, hs, hr, hw⟩ := h.cells k cs gen rw' hk
      obtain ⟨e1, e2, e3⟩ := old k e
      refine ⟨ho, c, ty, fr, ?_, by rw [e3]; exact hs, by rw [e2]; exact hr.ext hext, fun q => by rw [e1]; exact hw q⟩
      rw [e1, keep _ (Array.getElem?_eq_some_iff.1 hc).1]
      exact hc
  · rw [bl_push] at hk
    split at hk
    · rename_i e
      subst e
      cases hk
      obtain ⟨rfl, rfl⟩ := hx
      exact ⟨by rw [new.1]; exact h.big, #[], by rw [new.1, heap_new, if_pos rfl], rfl, fun i e hi => by simp at hi⟩
    · rename_i e
      obtain ⟨e1, _, _⟩ := old k e
      obtain ⟨hb1, es', hes, hl, hel⟩ := h.maps k es ck hk
      refine ⟨by rw [e1]; exact hb1, es', ?_, hl, fun i y hi => ?_⟩
      · rw [e1, keep _ (Array.getElem?_eq_some_iff.1 hes).1]
        exact hes
      · obtain ⟨e', q1, q2, q3, q4⟩ := hel i y hi
        exact ⟨e', q1, VRel.ext hext _ q2, VRel.ext hext _ q3, q4⟩
  · have cut : ∀ q, q ≠ m.bl.length → ((∃ cs gen rw, (m.push x).bl[q]? = some (.cells cs gen rw)) ∨ liveMap (m.push x) q) → (∃ cs gen rw, m.bl[q]? = some (.cells cs gen rw)) ∨ liveMap m q := by
      intro q hq hl
      rcases hl with ⟨a, b, c, hl⟩ | ⟨a, b, hl⟩ <;> rw [bl_push, if_neg hq] at hl
      · exact .inl ⟨a, b, c, hl⟩
      · exact .inr ⟨a, b, hl⟩
    have weak : ∀ q, ((∃ cs gen, (m.push x).bl[q]? = some (.cells cs gen true)) ∨ liveMap (m.push x) q) → (∃ cs gen rw, (m.push x).bl[q]? = some (.cells cs gen rw)) ∨ liveMap (m.push x) q := by
      intro q hl
      rcases hl with ⟨a, b, hl⟩ | hl
      · exact .inl ⟨a, b, true, hl⟩
      · exact .inr hl
    by_cases e : k = m.bl.length
    · have e' : k' ≠ m.bl.length := fun q => hkk (e.trans q.symm)
      rw [e, new.1, (old k' e').1]
      have := h.blk_lt (cut k' e' h2)
      omega
    · by_cases e' : k' = m.bl.length
      · rw [e', new.1, (old k e).1]
        have := h.blk_lt (cut k e (weak k h1))
        omega
      · rw [(old k e).1, (old k' e').1]
        refine h.inj k k' hkk ?_ (cut k' e' h2)
        rcases h1 with ⟨a, b, h1⟩ | ⟨a, b, h1⟩ <;> rw [bl_push, if_neg e] at h1
        · exact .inl ⟨a, b, h1⟩
        · exact .inr ⟨a, b, h1⟩
  · rw [bl_push] at hk
    split at hk
    · rename_i e
      subst e
      cases hk
      have hx : o = .stringIter ⟨t.toArray⟩ p := hx
      exact ⟨by rw [new.1]; exact h.big, by rw [new.1, heap_new, if_pos rfl, hx]⟩
    · rename_i e
      obtain ⟨e1, _, _⟩ := old k e
      obtain ⟨q1, q2⟩ := h.other k t p hk
      rw [e1]
      exact ⟨q1, (keep _ (Array.getElem?_eq_some_iff.1 q2).1).trans q2⟩
  · rw [bl_push] at hk
    split at hk
    · rename_i e
      subst e
      cases hk
      obtain ⟨ho, c, ty, fr, rfl, hs, hr, hf, ht⟩ := hx
      rw [new.1, heap_new, if_pos rfl] at hh
      cases hh
      obtain ⟨t1, t2⟩ := ht hty
      exact ⟨t1, new.2.1, t2⟩
    · rename_i e
      obtain ⟨e1, e2, e3⟩ := old k e
      have hlt := h.blk_lt (.inl ⟨cs, gen, rw', hk⟩)
      rw [e1, keep _ hlt] at hh
      obtain ⟨t1, t2⟩ := h.typed k cs gen rw' ck tyk frk hk hh hty
      exact ⟨t1, by rw [e2]; exact t2.1, t2.2⟩
  · obtain ⟨r1, ⟨cR, tR, fR, r2, r3⟩, r4⟩ := h.garb R n hR
    have hRl := (Array.getElem?_eq_some_iff.1 r2).1
    refine ⟨r1, ⟨cR, tR, fR, (keep R hRl).trans r2, r3⟩, fun k hk => ?_⟩
    by_cases e : k = m.bl.length
    · rw [e, new.1]; omega
    · rw [(old k e).1]
      refine r4 k ?_
      rcases hk with ⟨a, b, c, hl⟩ | ⟨a, b, hl⟩ <;> rw [bl_push, if_neg e] at hl
      · exact .inl ⟨a, b, c, hl⟩
      · exact .inr ⟨a, b, hl⟩

theorem MemRel.drew (h : MemRel G base w0 j m w) : MemRel G base w0 j m w.drew :=
  ⟨h.below.drew, h.big, h.globs, h.cells, h.maps, h.inj, h.other, h.typed, h.garb⟩

end
end Go.Ev
