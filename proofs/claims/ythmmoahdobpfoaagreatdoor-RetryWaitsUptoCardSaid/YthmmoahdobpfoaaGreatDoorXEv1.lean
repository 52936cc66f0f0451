/- The engine, part 1: a small language of resolved operations, its evaluator over a canonical memory, and the translation of a loaded function into it. No statement of the program is proved here; there are no conditions. -/
import Derived.Calls
import Derived.Lib.Index
set_option linter.unusedSimpArgs false
set_option linter.unusedSectionVars false
set_option linter.unusedVariables false
namespace Go.Ev

/-- Where an address begins: a package-level variable, or a block of the canonical memory with the count of its growths. -/
inductive Base where
  | glob (g : Nat)
  | mem (b gen : Nat)
  | weak (w : Nat)

structure Ad where
  base : Base
  off : Nat

/-- Values of the evaluator. A slice bears the cells of one element; its capacity is a lower bound. -/
inductive EV where
  | bool (b : Bool)
  | int (k : IntKind) (n : Int)
  | flt (k : FloatKind) (bits : Nat)
  | str (s : List UInt8)
  | ptr (a : Option Ad)
  | slice (a : Option Ad) (len cap esz : Nat)
  | map (r : Option Nat)
  | func (f : FuncId) (cap : List EV)
  | nilFunc
  | iface (t : TypeId) (v : EV)
  | nilIface
  | agg (cs : List EV)
  | tuple (vs : List EV)
  | iter (b : Nat)

def undefE : EV := .tuple []
instance : Inhabited EV := ⟨undefE⟩

def EV.cells : EV → List EV
  | .agg cs => cs
  | v => [v]

/-- One entry of a map: key, value, its number. -/
structure Ent where
  key : EV
  val : EV
  born : Nat

inductive Blk where
  | cells (cs : List EV) (gen : Nat) (rw : Bool)
  | map (es : List Ent) (clock : Nat)
  | striter (s : List UInt8) (pos : Nat)
  | dead (gen : Nat)

/-- Not a row of cells, and there. -/
def Blk.other : Blk → Bool
  | .map _ _ | .striter _ _ => true
  | _ => false
def Blk.gen : Blk → Nat
  | .cells _ g _ => g
  | .dead g => g
  | _ => 1

/-- The canonical memory. low: no block below it has been written since the call began. -/
structure Mem where
  bl : List Blk
  low : Nat

abbrev Fr := Nat → EV
def upd (A : Fr) (t : Nat) (v : EV) : Fr := fun i => if i = t then v else A i

inductive Opd where
  | tmp (t : Nat)
  | con (v : EV)
  | glob (g : Nat)
  | fn (f : FuncId)

def opd (A : Fr) : Opd → EV
  | .tmp t => A t
  | .con v => v
  | .glob g => .ptr (some ⟨.glob g, 0⟩)
  | .fn f => .func f []

inductive EOp where
  | mov (x : Opd)
  | pick (c a b : Opd)
  | new (z : List EV)
  | box (n : Nat) (x : Opd)
  | build (z : List EV) (ps : List (Nat × Nat × Opd))
  | mklit (len esz : Nat) (z : List EV) (ps : List (Nat × Nat × Opd))
  | load (n : Option Nat) (a : Opd)
  | store (n : Nat) (a x : Opd)
  | nilchk (x : Opd)
  | bin (op : BinOp) (q : List Nat) (x y : Opd)
  | isnil (k : Nat) (neg : Bool) (x : Opd)
  | un (op : UnOp) (x : Opd)
  | toInt (k : IntKind) (x : Opd)
  | same (x : Opd)
  | toBytes (x : Opd)
  | toStr (x : Opd)
  | mkIface (t : TypeId) (x : Opd)
  | mkFunc (f : FuncId) (cap : List Opd)
  | mkMap
  | mkMapN (h : Opd)
  | mkSlice (esz bytes : Nat) (z : List EV) (l c : Opd)
  | slStr (x : Opd) (lo hi : Option Opd)
  | sl (esz : Nat) (x : Opd) (lo hi : Option Opd)
  | slArr (n esz : Nat) (x : Opd) (lo hi : Option Opd)
  | fldAddr (off : Nat) (x : Opd)
  | fld (off : Nat) (n : Option Nat) (x : Opd)
  | ixAddrArr (len esz : Nat) (x i : Opd)
  | ixAddr (esz : Nat) (x i : Opd)
  | ixArr (len esz : Nat) (n : Option Nat) (x i : Opd)
  | ixStr (x i : Opd)
  | ext (x : Opd) (i : Nat)
  | lenStr (x : Opd)
  | lenSl (x : Opd)
  | capSl (x : Opd)
  | lenMap (x : Opd)
  | append (esz bytes tag : Nat) (s x : Opd)
  | newT (gen : Nat) (z : List EV)
  | unsafeTo (x : Opd)
  | unsafeFrom (gen n : Nat) (x : Opd)
  | ptrEq (neg : Bool) (x y : Opd)
  | sliceData (x : Opd)
  | unsafeStr (gen : Nat) (x n : Opd)
  | copy (esz : Nat) (d s : Opd)
  | clear (z : List EV) (x : Opd)
  | minmax (mx : Bool) (x y : Opd)
  | call (f : Opd) (args : List Opd)
  | lookup (q : List Nat) (z : EV) (m k : Opd) (ok : Bool)
  | mapSet (q : List Nat) (m k x : Opd)
  | mapEntry (z : EV) (m k : Opd)
  | entrySet (m s x : Opd)
  | delete (q : List Nat) (m k : Opd)
  | range (x : Opd)
  | next (x : Opd)
  | mark (x : Opd)
  | toFlt (k : FloatKind) (x : Opd)
  | fltInt (k : IntKind) (x : Opd)
  | stuck
  | assert (t : TypeId) (z : EV) (x : Opd) (ok : Bool)
  | panic (x : Opd)
  | recover
  | defer (f : Opd) (args : List Opd)

structure EOper where
  dst : Option Nat
  op : EOp
  guard : Option (Nat × Bool)

inductive ECode where
  | skip
  | reg (ops : List EOper)
  | regD (ops : List EOper) (near : List Bool) (cut : Nat)
  | regL (js : List Nat) (ops : List EOper) (near : List Bool) (cut : Nat)
  | seq (a b : ECode)
  | cond (c : Opd) (a b : ECode)
  | block (id : Nat) (c : ECode)
  | loop (c : ECode)
  | exit (id : Nat)
  | ret

inductive ERes where
  | tmp (t : Nat)
  | cell (a : Nat) (n : Option Nat)

/-- A function whose body is not walked: one without a Go body, by its number; or one of which it is known what it answers. -/
inductive Prim where
  | num (n : Nat)
  | orc (o : List EV → Option EV)
  | weak
  | mnz (tag : Nat)

/-- prim: a function whose body is not walked. -/
structure EFunc where
  res : List ERes
  body : ECode
  prim : Option Prim

/-! ### Memory -/
/-- Counts of growths below this one say nothing of a row's type; above it, their quotient by it is one more than the type's number. -/
def typeK : Nat := 1099511627776

/-- What package-level variables hold. -/
abbrev Globs := Nat → Option (List EV)

def Mem.row (G : Globs) (m : Mem) : Base → Option (List EV)
  | .glob g => G g
  | .mem b gen => match m.bl[b]? with
    | some (.cells cs gen' _) => if gen' = gen then some cs else none
    | _ => none
  | .weak _ => none

def Mem.get (G : Globs) (m : Mem) (a : Ad) : Option EV := (m.row G a.base).bind fun cs => cs[a.off]?
def Mem.getN (G : Globs) (m : Mem) (a : Ad) (n : Nat) : Option (List EV) :=
  if n = 0 then some [] else (m.row G a.base).bind fun cs => if a.off + n ≤ cs.length then some ((cs.drop a.off).take n) else none

def cellOk : EV → Bool
  | .agg _ | .tuple _ | .iter _ => false
  | _ => true

/-- Not several values in one. -/
def single : EV → Bool
  | .tuple _ | .iter _ => false
  | _ => true

def splice (cs : List EV) (off : Nat) (vs : List EV) : List EV := cs.take off ++ vs ++ cs.drop (off + vs.length)

/-- Writes cells where they lie: x says what becomes of the row. -/
def Mem.write (m : Mem) (b : Base) (need : Nat) (x : List EV → List EV) : Option Mem :=
  match b with
  | .mem b gen => match m.bl[b]? with
    | some (.cells cs gen' true) => if gen' = gen ∧ need ≤ cs.length then some ⟨m.bl.set b (.cells (x cs) gen true), min m.low b⟩ else none
    | _ => none
  | .glob _ => none
  | .weak w => if need ≤ w then some m else none
def Mem.put1 (m : Mem) (a : Ad) (v : EV) : Option Mem := m.write a.base (a.off + 1) fun cs => cs.set a.off v
def Mem.putN (m : Mem) (a : Ad) (vs : List EV) : Option Mem := m.write a.base (a.off + vs.length) fun cs => splice cs a.off vs

def Mem.push (m : Mem) (b : Blk) : Mem := ⟨m.bl ++ [b], m.low⟩
def Mem.fresh (m : Mem) : Ad := ⟨.mem m.bl.length 0, 0⟩

/-! ### Operations on values -/
def bitsE (op : BinOp) (k : IntKind) (a b : Int) : Int :=
  let x := BitVec.ofInt k.bits a
  let y := BitVec.ofInt k.bits b
  match op with
  | .and => k.wrap (x &&& y).toNat
  | .or => k.wrap (x ||| y).toNat
  | .xor => k.wrap (x ^^^ y).toNat
  | _ => k.wrap (x &&& ~~~y).toNat

def binInt (op : BinOp) (k : IntKind) (a b : Int) : Option EV :=
  match op with
  | .add => some (.int k (k.wrap (a + b)))
  | .sub => some (.int k (k.wrap (a - b)))
  | .mul => some (.int k (k.wrap (a * b)))
  | .quo => if b = 0 then none else some (.int k (k.wrap (a.tdiv b)))
  | .rem => if b = 0 then none else some (.int k (a.tmod b))
  | .and | .or | .xor | .andNot => some (.int k (bitsE op k a b))
  | .eql => some (.bool (a == b))
  | .neq => some (.bool (a != b))
  | .lss => some (.bool (a < b))
  | .leq => some (.bool (a ≤ b))
  | .gtr => some (.bool (a > b))
  | .geq => some (.bool (a ≥ b))
  | _ => none

def shiftE (op : BinOp) (k : IntKind) (a b : Int) : Option EV :=
  if b < 0 then none else
  match op with
  | .shl => some (.int k (k.wrap (a * 2 ^ (min b.toNat k.bits))))
  | .shr => some (.int k (a.fdiv (2 ^ (min b.toNat k.bits))))
  | _ => none

def binStr (op : BinOp) (a b : List UInt8) : Option EV :=
  match op with
  | .add => if a.length + b.length ≤ 9223372036854775807 then some (.str (a ++ b)) else none
  | .eql => some (.bool (a == b))
  | .neq => some (.bool !(a == b))
  | .lss => some (.bool (Op.bytesLess a b))
  | .leq => some (.bool (Op.bytesLess a b || a == b))
  | .gtr => some (.bool !(Op.bytesLess a b || a == b))
  | .geq => some (.bool !(Op.bytesLess a b))
  | _ => none

/-- Are two cells the same? k: 1: bools, 2: whole numbers of one kind, 3: texts. -/
def eqCell : Nat → EV → EV → Option Bool
  | 1, .bool a, .bool b => some (a == b)
  | 2, .int k a, .int k' b => if k = k' then some (a == b) else none
  | 3, .str a, .str b => some (a == b)
  | _, _, _ => none
def eqCells : List Nat → List EV → List EV → Option Bool
  | [], [], [] => some true
  | k :: ks, x :: xs, y :: ys => match eqCell k x y, eqCells ks xs ys with
    | some a, some b => some (a && b)
    | _, _ => none
  | _, _, _ => none

/-- Are two keys the same? q: 11, 12, 13 (bools, whole numbers, texts), or the kinds of a struct's or an array's cells. -/
def keyEqE (q : List Nat) : EV → EV → Option Bool
  | .agg xs, .agg ys => eqCells q xs ys
  | x, y => match q with
    | [k] => if 10 < k then eqCell (k - 10) x y else none
    | _ => none
/-- The entry of a key. -/
def findE (q : List Nat) (k : EV) : List Ent → Nat → Option (Option (Nat × EV))
  | [], _ => some none
  | e :: es, i => match keyEqE q k e.key with
    | some true => some (some (i, e.val))
    | some false => findE q k es (i + 1)
    | none => none
/-- The same of a key that may be one. -/
def lookE (q : List Nat) (k : EV) (es : List Ent) : Option (Option (Nat × EV)) := match keyEqE q k k with
  | some true => findE q k es 0
  | _ => none
def setEnt : List Ent → Nat → EV → EV → List Ent
  | [], _, _, _ => []
  | e :: es, 0, k, v => ⟨k, v, e.born⟩ :: es
  | e :: es, i + 1, k, v => e :: setEnt es i k v

/-- What a look into a map tells. -/
def lookR (z : EV) (ok : Bool) : Option (Nat × EV) → EV
  | some (_, v) => if ok then .tuple [v, .bool true] else v
  | none => if ok then .tuple [z, .bool false] else z
/-- A map with an entry laid, or written over; with one taken out. -/
def entPut (k v : EV) (es : List Ent) (ck : Nat) : Option (Nat × EV) → Blk
  | some (i, _) => .map (setEnt es i k v) ck
  | none => .map (es ++ [⟨k, v, ck⟩]) (ck + 1)
def entDel (es : List Ent) (ck : Nat) : Option (Nat × EV) → Blk
  | some (i, _) => .map (es.eraseIdx i) ck
  | none => .map es ck

/-- Floating-point numbers; what comes to no number is left out. -/
def binFlt (op : BinOp) (k : FloatKind) (a b : Nat) : Option EV :=
  match op with
  | .add => (k.format.add a b).map (.flt k)
  | .sub => (k.format.sub a b).map (.flt k)
  | .mul => (k.format.mul a b).map (.flt k)
  | .quo => (k.format.div a b).map (.flt k)
  | .eql => some (.bool (k.format.order a b == some .eq))
  | .neq => some (.bool (k.format.order a b != some .eq))
  | .lss => some (.bool (k.format.order a b == some .lt))
  | .leq => some (.bool (k.format.order a b == some .lt || k.format.order a b == some .eq))
  | .gtr => some (.bool (k.format.order a b == some .gt))
  | .geq => some (.bool (k.format.order a b == some .gt || k.format.order a b == some .eq))
  | _ => none

/-- q: the kinds of the cells that '==' asks of bools, structs and arrays. -/
def binE (op : BinOp) (q : List Nat) : EV → EV → Option EV
  | .int k a, .int k' b =>
    match op with
    | .shl | .shr => shiftE op k a b
    | _ => if k = k' then binInt op k a b else none
  | .str a, .str b => binStr op a b
  | .flt k a, .flt k' b => if k = k' then binFlt op k a b else none
  | .bool a, .bool b => if q = [9] then (match op with
    | .eql => some (.bool (a == b))
    | .neq => some (.bool !(a == b))
    | _ => none) else none
  | .agg xs, .agg ys => match op with
    | .eql => (eqCells q xs ys).map .bool
    | .neq => (eqCells q xs ys).map fun b => .bool !b
    | _ => none
  | _, _ => none

/-- Is a value nil? k: 1: a pointer, 2: a slice, 3: a map, 4: a function, 5: an interface value. -/
def isNil : Nat → EV → Option Bool
  | 1, .ptr a => some a.isNone
  | 2, .slice a _ _ _ => some a.isNone
  | 3, .map r => some r.isNone
  | 4, .func _ _ => some false
  | 4, .nilFunc => some true
  | 5, .iface _ _ => some false
  | 5, .nilIface => some true
  | _, _ => none

def unE (op : UnOp) : EV → Option EV
  | .int k n => match op with
    | .neg => some (.int k (k.wrap (0 - n)))
    | .xor => some (.int k (bitsE .xor k (if k.signed then -1 else k.max) n))
    | _ => none
  | .bool b => match op with
    | .not => some (.bool !b)
    | _ => none
  | _ => none

def byteE (b : UInt8) : EV := .int .u8 b.toNat
def bytesE (s : List UInt8) : List EV := s.map byteE
def byteOfE : EV → Option UInt8
  | .int .u8 n => some (UInt8.ofNat n.toNat)
  | _ => none
def strE : List EV → Option (List UInt8)
  | [] => some []
  | x :: xs => match byteOfE x, strE xs with
    | some b, some s => some (b :: s)
    | _, _ => none

def bound (A : Fr) (d : Nat) : Option Opd → Option Nat
  | none => some d
  | some x => match opd A x with
    | .int _ n => if 0 ≤ n then some n.toNat else none
    | _ => none

def fillE (cells : List EV) : List (Nat × Nat × EV) → Option (List EV)
  | [] => some cells
  | (off, size, v) :: r => if v.cells.length = size ∧ off + size ≤ cells.length ∧ single v = true then fillE (splice cells off v.cells) r else none

def partE (cs : List EV) (off : Nat) : Option Nat → Option EV
  | none => cs[off]?
  | some n => if off + n ≤ cs.length then some (.agg ((cs.drop off).take n)) else none

def repE (n : Nat) : List EV → List EV
  | [v] => List.replicate n v
  | z => (List.replicate n z).flatten

def Ad.plus (a : Ad) (n : Nat) : Ad := ⟨a.base, a.off + n⟩

def parts (A : Fr) (ps : List (Nat × Nat × Opd)) : List (Nat × Nat × EV) := ps.map fun p => (p.1, p.2.1, opd A p.2.2)

/-! ### One operation -/
/-- A frame's state. d: its deferred calls. p: nothing, if it was called plainly; else what is to be recovered, if anything is. -/
structure St where
  A : Fr
  m : Mem
  d : List (FuncId × List EV)
  p : Option (Option EV)

def St.put (s : St) (dst : Option Nat) (v : EV) : St :=
  match dst with
  | some d => { s with A := upd s.A d v }
  | none => s

inductive Res where
  | val (v : EV)
  | pan (v : EV)

/-- What a call comes to. -/
structure CR where
  res : Res
  m : Mem
  p : Option (Option EV)

abbrev CallE := FuncId → List EV → Mem → Option (Option EV) → Option CR

def srcCells (G : Globs) (m : Mem) (esz : Nat) : EV → Option (List EV × Nat)
  | .str s => if esz = 1 then some (bytesE s, s.length) else none
  | .slice none _ _ _ => some ([], 0)
  | .slice (some a) n _ _ => (m.getN G a (n * esz)).map fun cs => (cs, n)
  | _ => none

/-- A row grows: nothing is known of its spare room. -/
def growE (m : Mem) (esz bytes tag : Nat) (a : Ad) (len : Nat) (new : List EV) (n : Nat) : Option (EV × Mem) :=
    if (len + n) * bytes ≤ 140737488355328 then
      match a.base with
      | .mem b gen => match m.bl[b]? with
        | some (.cells cs gen' true) =>
          if gen' = gen ∧ a.off + len * esz ≤ cs.length ∧ (gen + 1) / typeK = gen / typeK ∧ (gen < typeK ∨ tag / typeK = gen / typeK ∧ gen % typeK ≠ 0 ∧ a.off = 0) then
            some (.slice (some ⟨.mem b (gen + 1), 0⟩) (len + n) (len + n) esz,
              ⟨m.bl.set b (.cells ((cs.drop a.off).take (len * esz) ++ new) (gen + 1) true), min m.low b⟩)
          else none
        | _ => none
      | .glob _ => none
      | .weak _ => some (.slice (some ⟨.weak ((len + n) * esz), 0⟩) (len + n) (len + n) esz, m)
    else none
def appendE (G : Globs) (m : Mem) (esz bytes tag : Nat) (s : EV) (new : List EV) (n : Nat) : Option (EV × Mem) :=
  match s with
  | .slice none _ _ _ =>
    if n = 0 then some (.slice none 0 0 0, m)
    else if n * bytes ≤ 140737488355328 then some (.slice (some ⟨.mem m.bl.length tag, 0⟩) n n esz, m.push (.cells new tag true)) else none
  | .slice (some a) len cap e =>
    if e ≠ esz then none
    else if len + n ≤ cap then (if n = 0 then some (.slice (some a) len cap esz, m) else match m.putN (a.plus (len * esz)) new with
      | some m' => some (.slice (some a) (len + n) cap esz, m')
      | none => growE m esz bytes tag a len new n)
    else growE m esz bytes tag a len new n
  | _ => none

/-- Operations that call nothing: a value, and what becomes of memory. -/
def evVal (G : Globs) (o : EOp) (A : Fr) (m : Mem) : Option (EV × Mem) :=
  match o with
  | .mov x => some (opd A x, m)
  | .pick c a b => match opd A c with
    | .bool t => some (if t then opd A a else opd A b, m)
    | _ => none
  | .new z => some (.ptr (some m.fresh), m.push (.cells z 0 true))
  | .box n x => if (opd A x).cells.length = n ∧ single (opd A x) = true then some (.ptr (some m.fresh), m.push (.cells (opd A x).cells 0 true)) else none
  | .build z ps => (fillE z (parts A ps)).map fun cs => (.agg cs, m)
  | .mklit len esz z ps => (fillE z (parts A ps)).map fun cs => (.slice (some m.fresh) len len esz, m.push (.cells cs 0 true))
  | .load n a => match opd A a with
    | .ptr (some a) => match n with
      | none => (m.get G a).map fun v => (v, m)
      | some n => (m.getN G a n).map fun cs => (.agg cs, m)
    | _ => none
  | .store n a x => match opd A a with
    | .ptr (some a) => match opd A x with
      | .agg cs => if cs.length = n then (m.putN a cs).map fun m => (undefE, m) else none
      | .tuple _ => none
      | .iter _ => none
      | v => if n = 1 then (m.put1 a v).map fun m => (undefE, m) else none
    | _ => none
  | .nilchk x => match opd A x with
    | .ptr (some a) => some (.ptr (some a), m)
    | .func f c => some (.func f c, m)
    | _ => none
  | .bin op q x y => (binE op q (opd A x) (opd A y)).map fun v => (v, m)
  | .isnil k neg x => (isNil k (opd A x)).map fun b => (.bool (if neg then !b else b), m)
  | .un op x => (unE op (opd A x)).map fun v => (v, m)
  | .toInt k x => match opd A x with
    | .int _ n => some (.int k (k.wrap n), m)
    | _ => none
  | .same x => match opd A x with
    | .str t => some (.str t, m)
    | _ => none
  | .newT gen z => some (.ptr (some ⟨.mem m.bl.length gen, 0⟩), m.push (.cells z gen true))
  | .unsafeTo x => match opd A x with
    | .ptr none => some (.ptr none, m)
    | .ptr (some ⟨.mem b gen, 0⟩) => match m.bl[b]? with
      | some (.cells cs gen' rw) => if gen' = gen ∧ cs ≠ [] then some (.ptr (some ⟨.mem b gen, 0⟩), m) else none
      | _ => none
    | _ => none
  | .unsafeFrom gt n x => match opd A x with
    | .ptr none => some (.ptr none, m)
    | .ptr (some ⟨.mem b gen, 0⟩) => match m.bl[b]? with
      | some (.cells cs gen' rw) => if gen' = gen ∧ gen = gt ∧ cs.length = n then some (.ptr (some ⟨.mem b gen, 0⟩), m) else none
      | _ => none
    | _ => none
  | .ptrEq neg x y => match opd A x, opd A y with
    | .ptr none, .ptr b => some (.bool (if neg then !b.isNone else b.isNone), m)
    | .ptr (some _), .ptr none => some (.bool neg, m)
    | .ptr (some ⟨.mem b gen, o⟩), .ptr (some ⟨.mem b' gen', o'⟩) => match m.bl[b]? with
      | some (.cells cs g rw) => if b = b' ∧ gen = gen' ∧ g = gen ∧ o = o' then some (.bool !neg, m) else none
      | _ => none
    | _, _ => none
  | .sliceData x => match opd A x with
    | .slice none _ _ _ => some (.ptr none, m)
    | .slice (some a) _ c _ => if c ≠ 0 then some (.ptr (some a), m) else none
    | _ => none
  | .unsafeStr gt x n => match opd A x, opd A n with
    | .ptr none, .int .i64 n => if n = 0 then some (.str [], m) else none
    | .ptr (some a), .int .i64 n => if n = 0 then some (.str [], m) else if n < 0 ∨ 9223372036854775807 < n then none else
      match a.base with
      | .mem b gen => match m.bl[b]? with
        | some (.cells cs gen' true) => if gen' = gen ∧ gen / typeK = gt / typeK ∧ typeK ≤ gen ∧ a.off = 0 then
            ((m.getN G a n.toNat).bind strE).map fun t => (.str t, ⟨m.bl.set b (.cells cs gen false), min m.low b⟩) else none
        | _ => none
      | _ => none
    | _, _ => none
  | .toBytes x => match opd A x with
    | .str t => some (.slice (some m.fresh) t.length t.length 1, m.push (.cells (bytesE t) 0 true))
    | _ => none
  | .toStr x => match opd A x with
    | .slice none _ _ _ => some (.str [], m)
    | .slice (some a) n _ _ => ((m.getN G a n).bind strE).map fun t => (.str t, m)
    | _ => none
  | .mkIface t x => some (.iface t (opd A x), m)
  | .mkFunc f cap => some (.func f (cap.map (opd A)), m)
  | .mkMap => some (.map (some m.bl.length), m.push (.map [] 0))
  | .mkMapN h => match opd A h with
    | .int _ _ => some (.map (some m.bl.length), m.push (.map [] 0))
    | _ => none
  | .mkSlice esz bytes z l c => match opd A l, opd A c with
    | .int .i64 l, .int .i64 c => if 0 ≤ l ∧ l ≤ c ∧ bytes * c ≤ 281474976710656 then
        some (.slice (some m.fresh) l.toNat c.toNat esz, m.push (.cells (repE c.toNat z) 0 true)) else none
    | _, _ => none
  | .slStr x lo hi => match opd A x with
    | .str t => match bound A t.length hi with
      | some h => match bound A 0 lo with
        | some l => if l ≤ h ∧ h ≤ t.length then some (.str ((t.drop l).take (h - l)), m) else none
        | none => none
      | none => none
    | _ => none
  | .sl esz x lo hi => match opd A x with
    | .slice a len cap e => match bound A len hi with
      | some h => match bound A 0 lo with
        | some l => if l ≤ h ∧ h ≤ cap ∧ (e = esz ∨ a.isNone) then some (.slice (a.map (·.plus (l * esz))) (h - l) (cap - l) e, m) else none
        | none => none
      | none => none
    | _ => none
  | .slArr n esz x lo hi => match opd A x with
    | .ptr (some a) => match bound A n hi with
      | some h => match bound A 0 lo with
        | some l => match m.row G a.base with
          | some cs => if l ≤ h ∧ h ≤ n ∧ a.off + n * esz ≤ cs.length then some (.slice (some (a.plus (l * esz))) (h - l) (n - l) esz, m) else none
          | none => none
        | none => none
      | none => none
    | _ => none
  | .fldAddr off x => match opd A x with
    | .ptr (some a) => some (.ptr (some (a.plus off)), m)
    | _ => none
  | .fld off n x => match opd A x with
    | .agg cs => (partE cs off n).map fun v => (v, m)
    | _ => none
  | .ixAddrArr len esz x i => match opd A x, opd A i with
    | .ptr (some a), .int _ i => if 0 ≤ i ∧ i < len then some (.ptr (some (a.plus (i.toNat * esz))), m) else none
    | _, _ => none
  | .ixAddr esz x i => match opd A x, opd A i with
    | .slice (some a) len _ _, .int _ i => if 0 ≤ i ∧ i < len then some (.ptr (some (a.plus (i.toNat * esz))), m) else none
    | _, _ => none
  | .ixArr len esz n x i => match opd A x, opd A i with
    | .agg cs, .int _ i => if 0 ≤ i ∧ i < len then (partE cs (i.toNat * esz) n).map fun v => (v, m) else none
    | _, _ => none
  | .ixStr x i => match opd A x, opd A i with
    | .str t, .int _ i => if 0 ≤ i then (t[i.toNat]?).map fun b => (byteE b, m) else none
    | _, _ => none
  | .ext x i => match opd A x with
    | .tuple vs => (vs[i]?).map fun v => (v, m)
    | _ => none
  | .lenStr x => match opd A x with
    | .str t => some (.int .i64 t.length, m)
    | _ => none
  | .lenSl x => match opd A x with
    | .slice _ n _ _ => some (.int .i64 n, m)
    | _ => none
  | .capSl x => match opd A x with
    | .slice none _ _ _ => some (.int .i64 0, m)
    | _ => none
  | .lenMap x => match opd A x with
    | .map none => some (.int .i64 0, m)
    | .map (some r) => match m.bl[r]? with
      | some (.map es _) => some (.int .i64 es.length, m)
      | _ => none
    | _ => none
  | .append esz bytes tag x y => match srcCells G m esz (opd A y) with
    | some (new, n) => appendE G m esz bytes tag (opd A x) new n
    | none => none
  | .copy esz x y => match opd A x with
    | .slice a len _ _ => match srcCells G m esz (opd A y) with
      | some (new, n) => match a with
        | none => some (.int .i64 0, m)
        | some a => if min n len = 0 then some (.int .i64 0, m) else (m.putN a (new.take (min n len * esz))).map fun m => (.int .i64 (min n len : Nat), m)
      | none => none
    | _ => none
  | .clear z x => match opd A x with
    | .slice none _ _ _ => some (.tuple [], m)
    | .slice (some a) n _ _ => if n = 0 then some (.tuple [], m) else (m.putN a (repE n z)).map fun m => (.tuple [], m)
    | _ => none
  | .minmax mx x y => match opd A x, opd A y with
    | .int k a, .int k' b => if k = k' then some (.int k (if mx then (if b > a then b else a) else (if b < a then b else a)), m) else none
    | _, _ => none
  | .assert t z x ok => match opd A x with
    | .iface u v => if u = t then some (if ok then .tuple [v, .bool true] else v, m) else if ok then some (.tuple [z, .bool false], m) else none
    | .nilIface => if ok then some (.tuple [z, .bool false], m) else none
    | _ => none
  | .lookup q z x k ok => match opd A x with
    | .map none => (lookE q (opd A k) []).map fun f => (lookR z ok f, m)
    | .map (some r) => match m.bl[r]? with
      | some (.map es _) => (lookE q (opd A k) es).map fun f => (lookR z ok f, m)
      | _ => none
    | _ => none
  | .mapSet q x k v => match opd A x with
    | .map (some r) => match m.bl[r]? with
      | some (.map es ck) => if single (opd A v) = true then (lookE q (opd A k) es).map fun f => (undefE, ⟨m.bl.set r (entPut (opd A k) (opd A v) es ck f), min m.low r⟩) else none
      | _ => none
    | _ => none
  | .delete q x k => match opd A x with
    | .map none => (lookE q (opd A k) []).map fun _ => (undefE, m)
    | .map (some r) => match m.bl[r]? with
      | some (.map es ck) => (lookE q (opd A k) es).map fun f => (undefE, ⟨m.bl.set r (entDel es ck f), min m.low r⟩)
      | _ => none
    | _ => none
  | .range x => match opd A x with
    | .str s => some (.iter m.bl.length, m.push (.striter s 0))
    | _ => none
  | .next x => match opd A x with
    | .iter b => match m.bl[b]? with
      | some (.striter s p) => if p < s.length then some (.tuple [.bool true, .int .i64 p, .int .i32 (Utf8.decode ⟨s.toArray⟩ p).1], ⟨m.bl.set b (.striter s (p + (Utf8.decode ⟨s.toArray⟩ p).2)), min m.low b⟩)
        else some (.tuple [.bool false], m)
      | _ => none
    | _ => none
  | .mark x => match opd A x with
    | .slice (some ⟨.mem b gen, o⟩) n c z => match m.bl[b]? with
      | some (.cells _ gen' true) => if gen' = gen ∧ c ≠ 0 then some (.slice (some ⟨.mem b gen, o⟩) n c z, m) else none
      | _ => none
    | _ => none
  | .toFlt k x => match opd A x with
    | .int _ n => some (.flt k (k.nearest n), m)
    | _ => none
  | .fltInt k x => match opd A x with
    | .flt s b => match (s.decode b).toInt .zero with
      | some n => if k.min ≤ n ∧ n ≤ k.max then some (.int k n, m) else none
      | none => none
    | _ => none
  | _ => none

def evOp (call : CallE) (G : Globs) (o : EOp) (s : St) : Option (Res × St) :=
  match o with
  | .call f args => match opd s.A f with
    | .func f cap => match call f (args.map (opd s.A) ++ cap) s.m none with
      | some r => some (r.res, { s with m := r.m })
      | none => none
    | _ => none
  | .panic x => match opd s.A x with
    | .iface t v => some (.pan (.iface t v), s)
    | _ => none
  | .recover => match s.p with
    | some (some v) => some (.val v, { s with p := some none })
    | some none => some (.val .nilIface, s)
    | none => none
  | .defer f args => match opd s.A f with
    | .func f cap => some (.val undefE, { s with d := (f, args.map (opd s.A) ++ cap) :: s.d })
    | _ => none
  | o => (evVal G o s.A s.m).map fun r => (.val r.1, { s with m := r.2 })

/-! ### Code -/
inductive Ex where
  | normal
  | exit (id : Nat)
  | ret
  | pan (v : EV)

def wantedE (A : Fr) : Option (Nat × Bool) → Bool
  | none => true
  | some (d, want) => match A d with
    | .bool b => b == want
    | _ => false

def evOps (call : CallE) (G : Globs) : List EOper → St → Option (Ex × St)
  | [], s => some (.normal, s)
  | o :: os, s =>
    if wantedE s.A o.guard then
      match evOp call G o.op s with
      | some (.val v, s') => evOps call G os (s'.put o.dst v)
      | some (.pan v, s') => some (.pan v, s')
      | none => none
    else evOps call G os (s.put o.dst undefE)

/-- An operation whose answer does not hang on memory. -/
def EOp.calm : EOp → Bool
  | .sliceData _ | .mov _ | .pick _ _ _ | .nilchk _ | .bin _ _ _ _ | .isnil _ _ _ | .un _ _ | .toInt _ _ | .same _ | .mkIface _ _ | .mkFunc _ _ | .build _ _ | .slStr _ _ _ | .sl _ _ _ _
  | .fldAddr _ _ | .fld _ _ _ | .ixAddrArr _ _ _ _ | .ixAddr _ _ _ | .ixArr _ _ _ _ _ | .ixStr _ _ | .ext _ _ | .lenStr _ | .lenSl _ | .capSl _ | .minmax _ _ _ | .assert _ _ _ _ | .toFlt _ _ | .fltInt _ _ | .stuck => true
  | _ => false

def oldAd (n0 : Nat) (a : Ad) : Bool := match a.base with
  | .glob _ => true
  | .mem b _ => decide (b < n0)
  | .weak _ => true

/-- May an operation be done sooner or later? It hangs on no memory, or reads cells that were there before. -/
def floatOk (n0 : Nat) (A : Fr) : EOp → Bool
  | .load _ x => match opd A x with
    | .ptr (some a) => oldAd n0 a
    | _ => false
  | .toStr x => match opd A x with
    | .slice none _ _ _ => true
    | .slice (some a) _ _ _ => oldAd n0 a
    | _ => false
  | .slArr _ _ x _ _ => match opd A x with
    | .ptr (some a) => oldAd n0 a
    | _ => false
  | o => o.calm

/-- One operation of a region whose order is drawn. fl: does it float? -/
def stepD (call : CallE) (G : Globs) (n0 : Nat) (o : EOper) (fl : Bool) (s : St) : Option St :=
  if wantedE s.A o.guard then
    if fl then
      if floatOk n0 s.A o.op then (evVal G o.op s.A s.m).map fun r => s.put o.dst r.1 else none
    else match evOp call G o.op s with
      | some (.val v, s') => some (s'.put o.dst v)
      | _ => none
  else some (s.put o.dst undefE)

def evD (call : CallE) (G : Globs) (n0 : Nat) : List EOper → List Bool → St → Option St
  | [], _, s => some s
  | o :: os, f :: fs, s => match stepD call G n0 o f s with
    | some s' => evD call G n0 os fs s'
    | none => none
  | _ :: _, [], _ => none

/-- How far down has been written behind a region. -/
def lowD (m m' : Mem) : Nat := if m.bl.length ≤ m'.low then m.low else min m.low m'.low

/-- A region whose order is drawn: ahead of the cut, nothing below N may be written, and what floats reads below N alone. -/
def regionN (call : CallE) (G : Globs) (N : Nat) (ops : List EOper) (fl : List Bool) (cut : Nat) (s : St) : Option (Ex × St) :=
  if s.p.isSome = true then none else
  match evD call G N (ops.take cut) (fl.take cut) { s with m := ⟨s.m.bl, s.m.bl.length⟩ } with
  | some s1 => if N ≤ s1.m.low then
      match evD call G N (ops.drop cut) (fl.drop cut) s1 with
      | some s' => some (.normal, { s' with m := ⟨s'.m.bl, lowD s.m s'.m⟩ })
      | none => none
    else none
  | none => none
/-- N is what there was when the region began, or, if something of that is written, what lies below. -/
def regionD (call : CallE) (G : Globs) (ops : List EOper) (fl : List Bool) (cut : Nat) (s : St) : Option (Ex × St) :=
  match evD call G s.m.bl.length (ops.take cut) (fl.take cut) { s with m := ⟨s.m.bl, s.m.bl.length⟩ } with
  | some s1 => match regionN call G s.m.bl.length ops fl cut s with
    | some r => some r
    | none => regionN call G s1.m.low ops fl cut s
  | none => none

/-- What an operation lays whose content is known beforehand, and what it tells. -/
def lateB : EOp → Option Blk
  | .new z => some (.cells z 1 true)
  | .mkMap => some (.map [] 0)
  | _ => none
def lateV : EOp → Nat → EV
  | .mkMap, r => .map (some r)
  | _, r => .ptr (some ⟨.mem r 1, 0⟩)
/-- What the operations at some places lay. -/
def lates (ops : List EOper) : List Nat → Option (List Blk)
  | [] => some []
  | j :: js => match (ops[j]?).bind (fun o => lateB o.op), lates ops js with
    | some b, some bs => some (b :: bs)
    | _, _ => none
/-- These operations tell of blocks from rb on. -/
def subL (rb : Nat) (js : List Nat) (ops : List EOper) : List EOper := ops.mapIdx fun k o => match js.idxOf? k with
  | some i => ⟨o.dst, .mov (.con (lateV o.op (rb + i))), o.guard⟩
  | none => o
/-- The blocks are laid. -/
def commitE : List Blk → Nat → Mem → Option Mem
  | [], _, m => some m
  | b :: bs, r, m => match m.bl[r]? with
    | some (.dead 0) => commitE bs (r + 1) ⟨m.bl.set r b, min m.low r⟩
    | _ => none
/-- A region whose order is drawn, in which some operations (js) lay blocks of known content: these come first, and nothing is in them up to the cut. -/
def regionL (call : CallE) (G : Globs) (js : List Nat) (ops : List EOper) (fl : List Bool) (cut : Nat) (s : St) : Option (Ex × St) :=
  if s.p.isSome = true then none else
  match lates ops js with
  | none => none
  | some bs =>
    match evD call G s.m.bl.length ((subL s.m.bl.length js ops).take cut) (fl.take cut) { s with m := ⟨s.m.bl ++ List.replicate bs.length (.dead 0), s.m.bl.length + bs.length⟩ } with
    | some s1 => if s.m.bl.length + bs.length ≤ s1.m.low then
        match commitE bs s.m.bl.length s1.m with
        | some m1 => match evD call G s.m.bl.length ((subL s.m.bl.length js ops).drop cut) (fl.drop cut) { s1 with m := m1 } with
          | some s' => some (.normal, { s' with m := ⟨s'.m.bl, lowD s.m s'.m⟩ })
          | none => none
        | none => none
      else none
    | none => none

def iterE (step : St → Option (Ex × St)) : Nat → St → Option (Ex × St)
  | 0, _ => none
  | n + 1, s => match step s with
    | some (.normal, s') => iterE step n s'
    | r => r

def evCode (call : CallE) (G : Globs) (rounds : Nat) : ECode → St → Option (Ex × St)
  | .skip, s => some (.normal, s)
  | .reg ops, s => evOps call G ops s
  | .regD ops fl cut, s => regionD call G ops fl cut s
  | .regL js ops fl cut, s => regionL call G js ops fl cut s
  | .seq a b, s => match evCode call G rounds a s with
    | some (.normal, s') => evCode call G rounds b s'
    | r => r
  | .cond c a b, s => match opd s.A c with
    | .bool true => evCode call G rounds a s
    | .bool false => evCode call G rounds b s
    | _ => none
  | .block id c, s => match evCode call G rounds c s with
    | some (.exit i, s') => if i = id then some (.normal, s') else some (.exit i, s')
    | r => r
  | .loop c, s => iterE (evCode call G rounds c) rounds s
  | .exit id, s => some (.exit id, s)
  | .ret, s => some (.ret, s)

/-! ### Functions -/
mutual
def noref (n : Nat) : EV → Bool
  | .ptr (some ⟨.mem b _, _⟩) => decide (b < n)
  | .slice (some ⟨.mem b _, _⟩) _ _ _ => decide (b < n)
  | .map (some b) => decide (b < n)
  | .iter b => decide (b < n)
  | .func _ c => norefs n c
  | .iface _ v => noref n v
  | .agg cs => norefs n cs
  | .tuple vs => norefs n vs
  | _ => true
def norefs (n : Nat) : List EV → Bool
  | [] => true
  | v :: vs => noref n v && norefs n vs
end

def resE (G : Globs) (A : Fr) (m : Mem) : ERes → Option EV
  | .tmp t => some (A t)
  | .cell a n => match A a with
    | .ptr (some a) => match n with
      | none => m.get G a
      | some n => (m.getN G a n).map .agg
    | _ => none

def resultsE (G : Globs) (A : Fr) (m : Mem) : List ERes → Option (List EV)
  | [] => some []
  | r :: rs => match resE G A m r, resultsE G A m rs with
    | some v, some vs => some (v :: vs)
    | _, _ => none

def oneE : List EV → EV
  | [v] => v
  | vs => .tuple vs

def argsE (args : List EV) : Fr := fun i => args.getD i undefE

/-- The call is over: if nothing that was there was written, and what is told leads nowhere new, memory is as it was. -/
def leaveE (m0 : Mem) (v : EV) (m : Mem) : Mem :=
  if m0.bl.length ≤ m.low ∧ noref m0.bl.length v = true then m0 else ⟨m.bl, min m0.low m.low⟩

/-- Deferred calls, the last one first. pan: the panic that is under way. -/
def runD (call : CallE) : List (FuncId × List EV) → Mem → Option EV → Option (Option EV × Mem)
  | [], m, pan => some (pan, m)
  | (f, args) :: ds, m, pan => match call f args m (some pan) with
    | some ⟨.val _, m', some p⟩ => runD call ds m' p
    | _ => none

def finE (call : CallE) (G : Globs) (res : List ERes) (m : Mem) (pan : Option EV) (s : St) : Option CR :=
  if s.p.isSome = true ∧ s.d.isEmpty = false then none else
  match runD call s.d s.m pan with
  | some (none, m') => (resultsE G s.A m' res).map fun vs => ⟨.val (oneE vs), leaveE m (oneE vs) m', s.p⟩
  | some (some v, m') => some ⟨.pan v, leaveE m v m', s.p⟩
  | none => none

/-- The place of a byte in a text. -/
def findByte (s : List UInt8) (c : UInt8) : Int := match s.findIdx? (· == c) with
  | some i => i
  | none => -1

def ibsE : List EV → Mem → Option (EV × Mem)
  | [.str s, .int .u8 c], m => if 0 ≤ c ∧ c < 256 then some (.int .i64 (findByte s (UInt8.ofNat c.toNat)), m) else none
  | _, _ => none
def noeE : List EV → Mem → Option (EV × Mem)
  | [x], m => some (x, m)
  | _, _ => none
def ffbE : List EV → Mem → Option (EV × Mem)
  | [.int .u64 n], m => some (.flt .f64 n.toNat, m)
  | _, _ => none
def cntE : List EV → Mem → Option (EV × Mem)
  | [.str s, .int .u8 c], m => some (.int .i64 ((⟨s.toArray⟩ : ByteArray).foldl (fun (n : Int) x => if x == c.toNat.toUInt8 then n + 1 else n) ((0 : Nat) : Int)), m)
  | _, _ => none
/-- The bytes of a text, or of a slice of bytes. -/
def srcS (G : Globs) (m : Mem) : EV → Option (List UInt8)
  | .str s => some s
  | .slice none _ _ _ => some []
  | .slice (some a) n _ _ => (m.getN G a n).bind strE
  | _ => none
def ibyE (G : Globs) (args : List EV) (m : Mem) : Option (EV × Mem) := match args with
  | [x, .int .u8 c] => (srcS G m x).map fun s => (.int .i64 (findByte s (UInt8.ofNat c.toNat)), m)
  | _ => none
/-- g: the number of the variable that tells how long a searched text may be. -/
def idxE (g : Nat) (G : Globs) (args : List EV) (m : Mem) : Option (EV × Mem) := match args with
  | [x, y] => match srcS G m x, srcS G m y, G g with
    | some s, some t, some [.int .i64 k] => if 2 ≤ t.length ∧ (t.length : Int) ≤ k ∧ s.length < 4294967281 then some (.int .i64 (Go.Lib.index s t), m) else none
    | _, _, _ => none
  | _ => none
/-- A new row of bytes of which nothing is known: the tape has chosen them, and how many there are. -/
def mnzE (tag : Nat) (args : List EV) (m : Mem) : Option (EV × Mem) := match args with
  | [.int .i64 n] => if 0 ≤ n ∧ n ≤ 140737488355328 then some (.slice (some ⟨.mem m.bl.length tag, 0⟩) n.toNat n.toNat 1, m.push (.cells [] tag true)) else none
  | _ => none
/-- Functions without a Go body. -/
def primE (n : Prim) (G : Globs) (args : List EV) (m : Mem) : Option (EV × Mem) :=
  match n with
  | .num 1 => ibsE args m
  | .num 2 => noeE args m
  | .num 3 => ffbE args m
  | .num 4 => cntE args m
  | .num 5 => ibyE G args m
  | .num (n + 10) => idxE n G args m
  | .num _ => none
  | .orc o => (o args).map fun v => (v, m)
  | .weak => none
  | .mnz tag => mnzE tag args m

/-- The first argument's row is forgotten: the function may do with it what it likes. -/
def weakE (args : List EV) (m : Mem) : Option (List EV × Mem) := match args with
  | .slice none l c e :: r => some (.slice none l c e :: r, m)
  | .slice (some ⟨.mem b g, o⟩) l c e :: r => match m.bl[b]? with
    | some (.cells _ g' true) => if g' = g ∧ o = 0 then some (.slice (some ⟨.weak (l * e), 0⟩) l l e :: r, ⟨m.bl.set b (.dead (g + 1)), min m.low b⟩) else none
    | _ => none
  | _ => none

def evFun (T : FuncId → Option EFunc) (G : Globs) : Nat → FuncId → List EV → Mem → Option (Option EV) → Option CR
  | 0, _, _, _, _ => none
  | k + 1, f, args, m, p => match T f with
    | none => none
    | some ef => match ef.prim with
      | some .weak => if p.isSome = true then none else match weakE args m with
        | none => none
        | some q => match evCode (evFun T G k) G k ef.body ⟨argsE q.1, ⟨q.2.bl, q.2.bl.length⟩, [], none⟩ with
          | some (.normal, s) => finE (evFun T G k) G ef.res q.2 none s
          | some (.ret, s) => finE (evFun T G k) G ef.res q.2 none s
          | some (.pan v, s) => finE (evFun T G k) G ef.res q.2 (some v) s
          | _ => none
      | some n => if p.isSome = true then none else (primE n G args m).map fun r => ⟨.val r.1, r.2, p⟩
      | none => match evCode (evFun T G k) G k ef.body ⟨argsE args, ⟨m.bl, m.bl.length⟩, [], p⟩ with
        | some (.normal, s) => finE (evFun T G k) G ef.res m none s
        | some (.ret, s) => finE (evFun T G k) G ef.res m none s
        | some (.pan v, s) => finE (evFun T G k) G ef.res m (some v) s
        | _ => none

/-! ### The translation -/
def leafE : Value → Option EV
  | .bool b => some (.bool b)
  | .int k n => some (.int k n)
  | .float k b => some (.flt k b)
  | .string s => some (.str s.data.toList)
  | .pointer none => some (.ptr none)
  | .slice none 0 0 => some (.slice none 0 0 0)
  | .map none => some (.map none)
  | .nilFunc => some .nilFunc
  | .nilIface => some .nilIface
  | _ => none
def leavesE : List Value → Option (List EV)
  | [] => some []
  | v :: vs => match leafE v, leavesE vs with
    | some x, some xs => some (x :: xs)
    | _, _ => none
def constE : Value → Option EV
  | .agg cs => (leavesE cs.toList).map .agg
  | .tuple vs => (leavesE vs.toList).map .tuple
  | v => leafE v

def opdC : Operand → Option Opd
  | .tmp t => some (.tmp t)
  | .const v => (constE v).map .con
  | .global g => some (.glob g)
  | .func f => some (.fn f)
def opdsC : List Operand → Option (List Opd)
  | [] => some []
  | x :: xs => match opdC x, opdsC xs with
    | some y, some ys => some (y :: ys)
    | _, _ => none

def sizeC (P : Program) (t : TypeId) : Option Nat := (P.info? t).map (·.size)
def zeroC (P : Program) (t : TypeId) : Option EV := (P.info? t).bind fun i => i.zero.bind constE
/-- The cells that a variable of a type is loaded by: a struct's and an array's, or one. -/
def aggC (P : Program) (t : TypeId) : Option (Option Nat) :=
  match P.underlying t with
  | some (.struct _) | some (.array _ _) => (sizeC P t).map some
  | some _ => some none
  | none => none

def fieldsK (kinds : TypeId → Option (List Nat)) : List Field → Nat → Option (List Nat)
  | [], _ => some []
  | f :: fs, at_ => if f.name ≠ "_" ∧ f.offset = at_ then (kinds f.type).bind fun ks => (fieldsK kinds fs (at_ + ks.length)).map fun r => ks ++ r else none
/-- The kinds of the cells of types whose values are the same if all their cells are: whole numbers, bools, texts, and structs and arrays of these. -/
def flatK (P : Program) : Nat → TypeId → Option (List Nat)
  | 0, _ => none
  | d + 1, t => match P.underlying t with
    | some .bool => if sizeC P t = some 1 then some [1] else none
    | some (.int _) => if sizeC P t = some 1 then some [2] else none
    | some .string => if sizeC P t = some 1 then some [3] else none
    | some (.struct fs) => (fieldsK (flatK P d) fs.toList 0).bind fun ks => if sizeC P t = some ks.length ∧ P.stoodInHeld t = false then some ks else none
    | some (.array n e) => (flatK P d e).bind fun ks => if sizeC P e = some ks.length ∧ sizeC P t = some (n * ks.length) then some (List.replicate n ks).flatten else none
    | _ => none

def fixC (cs : List EV) (n : Nat) : Option (List EV) := if cs.length = n ∧ cs.all cellOk = true then some cs else none

def partsC (place : Nat → Option (Nat × Nat)) : List (Nat × Operand) → Option (List (Nat × Nat × Opd))
  | [] => some []
  | (i, x) :: r => match place i, opdC x, partsC place r with
    | some (off, size), some y, some ps => some ((off, size, y) :: ps)
    | _, _, _ => none

/-- What '==' between values of a type asks. -/
def eqC (P : Program) (t : TypeId) : List Nat :=
  match P.underlying t with
  | some .bool => [9]
  | some (.struct _) | some (.array _ _) => if P.eqGuardType P.depth t then [0] else match flatK P 30 t with
    | some ks => if ks = [9] then [0] else ks
    | none => [0]
  | _ => [0]
/-- Which values of a type can be nil. -/
def nilC (P : Program) (t : TypeId) : Nat :=
  match P.underlying t with
  | some (.pointer _) => 1
  | some (.slice _) => 2
  | some (.map _ _) => 3
  | some (.func _ _ _) => 4
  | some (.interface _) => 5
  | _ => 0
/-- Of which kind a constant nil is. -/
def nilV : Value → Nat
  | .pointer none => 1
  | .slice none 0 0 => 2
  | .map none => 3
  | .nilFunc => 4
  | .nilIface => 5
  | _ => 0
def nilK : Operand → Nat
  | .const v => nilV v
  | _ => 0
def isEq : BinOp → Bool
  | .eql | .neq => true
  | _ => false
def isNeq : BinOp → Bool
  | .neq => true
  | _ => false

def optC : Option Operand → Option (Option Opd)
  | none => some none
  | some x => (opdC x).map some

/-- The count of growths that a row of bytes of a slice begins with: it tells the type. -/
def tagC (P : Program) (e : TypeId) : Nat := match P.underlying e with
  | some (.int .u8) => typeK * (1 + e) + 1
  | _ => 0
/-- The same of a variable of a struct that may point to itself. -/
def selfC (P : Program) (t : TypeId) : Bool := match P.underlying t with
  | some (.struct fs) => match fs[0]? with
    | some f => match P.underlying f.type with
      | some (.pointer u) => u == t
      | _ => false
    | none => false
  | _ => false

/-- The kinds of a map's keys. -/
def keyC (P : Program) (t : TypeId) : Option (List Nat) := match P.underlying t with
  | some .bool => some [11]
  | some (.int _) => some [12]
  | some .string => some [13]
  | some (.struct _) | some (.array _ _) => if P.eqGuardType P.depth t then none else flatK P 30 t
  | _ => none

def builtinC (P : Program) (b : Builtin) (ts : List TypeId) (args : List Operand) : Option EOp :=
  match b, ts, args with
  | .len, [t], [x] => match P.underlying t with
    | some .string => (opdC x).map .lenStr
    | some (.slice _) => (opdC x).map .lenSl
    | some (.map _ _) => (opdC x).map .lenMap
    | some (.array n _) => some (.mov (.con (.int .i64 n)))
    | some (.pointer a) => match P.underlying a with
      | some (.array n _) => some (.mov (.con (.int .i64 n)))
      | _ => none
    | _ => none
  | .cap, [t], [x] => match P.underlying t with
    | some (.slice _) => (opdC x).map .capSl
    | _ => none
  | .append, [t, u], [x, y] => match P.underlying t with
    | some (.slice e) => match P.info? e, opdC x, opdC y with
      | some i, some x, some y => (match P.underlying u with
        | some .string => if i.size ≠ 1 ∨ (zeroC P e).map (·.cells.length) ≠ some i.size ∨ i.bytes = 0 then none else some (.append i.size i.bytes (tagC P e) x y)
        | some (.slice _) => if i.size = 0 ∨ (zeroC P e).map (·.cells.length) ≠ some i.size ∨ i.bytes = 0 then none else some (.append i.size i.bytes (tagC P e) x y)
        | _ => none)
      | _, _, _ => none
    | _ => none
  | .copy, [t, _], [x, y] => match P.underlying t with
    | some (.slice e) => match sizeC P e, opdC x, opdC y with
      | some n, some x, some y => some (.copy n x y)
      | _, _, _ => none
    | _ => none
  | .clear, [t], [x] => match P.underlying t with
    | some (.slice e) => match sizeC P e, zeroC P e, opdC x with
      | some n, some z, some x => if n = 0 then none else (fixC z.cells n).map fun z => .clear z x
      | _, _, _ => none
    | _ => none
  | .max, _, [x, y] => match opdC x, opdC y with
    | some x, some y => some (.minmax true x y)
    | _, _ => none
  | .min, _, [x, y] => match opdC x, opdC y with
    | some x, some y => some (.minmax false x y)
    | _, _ => none
  | .unsafeSliceData, [_], [x] => (opdC x).map .sliceData
  | .unsafeString, [pt, _], [x, n] => match P.underlying pt, opdC x, opdC n with
    | some (.pointer u), some x, some n => match P.underlying u with
      | some (.int .u8) => if sizeC P u = some 1 ∧ P.depth ≠ 0 then some (.unsafeStr (tagC P u) x n) else none
      | _ => none
    | _, _, _ => none
  | .delete, [t, _], [x, k] => match P.underlying t with
    | some (.map kt _) => match keyC P kt, opdC x, opdC k with
      | some q, some x, some k => some (.delete q x k)
      | _, _, _ => none
    | _ => none
  | .panic, _, [x] => (opdC x).map .panic
  | .recover, _, [] => some .recover
  | _, _, _ => none

def callC (P : Program) (c : Call) : Option EOp :=
  match c.callee with
  | .builtin b => builtinC P b c.argTypes.toList c.args.toList
  | .value f => match opdC f, opdsC c.args.toList with
    | some f, some as_ => some (.call f as_)
    | _, _ => none
  | .invoke _ _ => none

def opC (P : Program) (o : Op) : Option EOp :=
  match o with
  | .move x | .assign x => (opdC x).map .mov
  | .pick c a b => match opdC c, opdC a, opdC b with
    | some c, some a, some b => some (.pick c a b)
    | _, _, _ => none
  | .alloc t => match zeroC P t, sizeC P t with
    | some z, some n => (fixC z.cells n).map fun z => if selfC P t = true then .newT (typeK * (1 + t)) z else .new z
    | _, _ => none
  | .box t x => match opdC x, sizeC P t with
    | some x, some n => some (.box n x)
    | _, _ => none
  | .build t ps => match (zeroC P t).bind fun z => fixC z.cells z.cells.length, P.underlying t with
    | some z, some (.struct fs) => if fs.all fun f => (sizeC P f.type).isSome then
        (partsC (fun i => (fs[i]?).bind fun f => (sizeC P f.type).map fun n => (f.offset, n)) ps.toList).map (.build z) else none
    | some z, some (.array _ e) => (sizeC P e).bind fun n => (partsC (fun i => some (i * n, n)) ps.toList).map (.build z)
    | _, _ => none
  | .buildSlice t len ps => match P.underlying t with
    | some (.slice e) => match zeroC P e, sizeC P e with
      | some z, some n => if len * n ≤ 16777216 ∧ n ≠ 0 then
          (fixC z.cells n).bind fun z => (partsC (fun i => some (i * n, n)) ps.toList).map (.mklit len n (repE len z)) else none
      | _, _ => none
    | _ => none
  | .load t a => match aggC P t, opdC a with
    | some n, some a => some (.load n a)
    | _, _ => none
  | .store t a x => match sizeC P t, opdC a, opdC x with
    | some n, some a, some x => some (.store n a x)
    | _, _, _ => none
  | .nilCheck x => (opdC x).map .nilchk
  | .binOp op t x y _ =>
    if nilK y != 0 && nilK y == nilC P t && isEq op then (opdC x).map (.isnil (nilC P t) (isNeq op))
    else match opdC x, opdC y with
      | some x, some y => match P.underlying t with
        | some (.pointer u) => if isEq op = true ∧ sizeC P u ≠ some 0 ∧ (sizeC P u).isSome then some (.ptrEq (isNeq op) x y) else none
        | _ => some (.bin op (eqC P t) x y)
      | _, _ => none
  | .unOp op _ x => (opdC x).map (.un op)
  | .convert src dst x => match P.underlying src, P.underlying dst, opdC x with
    | some (.pointer t), some .unsafePointer, some x => if sizeC P t ≠ some 0 ∧ (sizeC P t).isSome then some (.unsafeTo x) else none
    | some .unsafePointer, some (.pointer u), some x => match sizeC P u with
      | some n => if n ≠ 0 ∧ selfC P u = true ∧ liesAt P P.depth u (n / P.cellsOf u) 0 u 1 = true then some (.unsafeFrom (typeK * (1 + u)) n x) else none
      | none => none
    | some (.int _), some (.int k), some x => some (.toInt k x)
    | some (.int _), some (.float k), some x => some (.toFlt k x)
    | some (.float _), some (.int k), some x => some (.fltInt k x)
    | some .string, some .string, some x => some (.same x)
    | some .string, some (.slice e), some x => match P.underlying e with
      | some (.int .u8) => if sizeC P e = some 1 then some (.toBytes x) else none
      | _ => none
    | some (.slice e), some .string, some x => match P.underlying e with
      | some (.int .u8) => some (.toStr x)
      | _ => none
    | some (.slice e), some (.slice _), some x => match P.underlying e with
      | some (.int .u8) => if src = dst then some (.mark x) else none
      | _ => none
    | _, _, _ => none
  | .makeInterface t x => match P.underlying t with
    | some (.interface _) | none => none
    | some _ => (opdC x).map (.mkIface t)
  | .makeFunc (.func f) first captured => if first.size = 0 then (opdsC captured.toList).map (.mkFunc f) else none
  | .makeMap _ none => some .mkMap
  | .makeMap t (some h) => match P.underlying t with
    | some (.map _ _) => (opdC h).map .mkMapN
    | _ => none
  | .lookup t x k ok => match P.underlying t with
    | some (.map kt e) => match keyC P kt, zeroC P e, opdC x, opdC k with
      | some q, some z, some x, some k => some (.lookup q z x k ok)
      | _, _, _, _ => none
    | _ => none
  | .mapUpdate t x k v => match P.underlying t with
    | some (.map kt _) => match keyC P kt, opdC x, opdC k, opdC v with
      | some q, some x, some k, some v => some (.mapSet q x k v)
      | _, _, _, _ => none
    | _ => none
  | .insert t x k v => match P.underlying t with
    | some (.map kt _) => match keyC P kt, opdC x, opdC k, opdC v with
      | some q, some x, some k, some v => some (.mapSet q x k v)
      | _, _, _, _ => none
    | _ => none
  | .makeSlice t l c => match P.underlying t with
    | some (.slice e) => match P.info? e, zeroC P e, opdC l, opdC c with
      | some i, some z, some l, some c => if i.size ≠ 0 ∧ i.bytes ≠ 0 then (fixC z.cells i.size).map fun z => .mkSlice i.size i.bytes z l c else none
      | _, _, _, _ => none
    | _ => none
  | .slice t x lo hi none => match P.underlying t, opdC x, optC lo, optC hi with
    | some .string, some x, some lo, some hi => some (.slStr x lo hi)
    | some (.slice e), some x, some lo, some hi => (sizeC P e).bind fun n => if n = 0 then none else some (.sl n x lo hi)
    | some (.array k e), some x, some lo, some hi => (sizeC P e).bind fun n => if n = 0 then none else some (.slArr k n x lo hi)
    | _, _, _, _ => none
  | .fieldAddr s x f => match P.underlying s, opdC x with
    | some (.struct fs), some x => (fs[f]?).bind fun g => (sizeC P g.type).bind fun n => if n = 0 then none else some (.fldAddr g.offset x)
    | _, _ => none
  | .field s x f => match P.underlying s, opdC x with
    | some (.struct fs), some x => (fs[f]?).bind fun g => (aggC P g.type).map fun n => .fld g.offset n x
    | _, _ => none
  | .indexAddr t x i => match P.underlying t, opdC x, opdC i with
    | some (.array len e), some x, some i => (sizeC P e).map fun n => .ixAddrArr len n x i
    | some (.slice e), some x, some i => (sizeC P e).map fun n => .ixAddr n x i
    | _, _, _ => none
  | .index t x i => match P.underlying t, opdC x, opdC i with
    | some (.array len e), some x, some i => (sizeC P e).bind fun n => (aggC P e).map fun q => .ixArr len n q x i
    | some .string, some x, some i => some (.ixStr x i)
    | _, _, _ => none
  | .range t x => match P.underlying t with
    | some .string => (opdC x).map .range
    | _ => none
  | .next x true => (opdC x).map .next
  | .typeAssert x _ t ok => match P.underlying t, zeroC P t, opdC x with
    | some (.interface _), _, _ => none
    | some _, some z, some x => some (.assert t z x ok)
    | _, _, _ => none
  | .extract x i => (opdC x).map fun x => .ext x i
  | .call c => callC P c
  | .defer c => match c.callee with
    | .value f => match opdC f, opdsC c.args.toList with
      | some f, some as_ => some (.defer f as_)
      | _, _ => none
    | _ => none
  | .panic x => (opdC x).map .panic
  | _ => none

def guardC (ops : Array Oper) : Option (Nat × Bool) → Option (Option (Nat × Bool))
  | none => some none
  | some (j, want) => ((ops[j]?).bind (·.dst)).map fun d => some (d, want)

def dstOk (nt : Nat) : Option Nat → Bool
  | none => true
  | some d => decide (d < nt)

/-- What has no translation stands still. -/
def opS (P : Program) (o : Op) : EOp := (opC P o).getD .stuck

def operC (P : Program) (nt : Nat) (ops : Array Oper) (o : Oper) : Option EOper :=
  match some (opS P o.op), guardC ops o.guard with
  | some e, some g => if dstOk nt o.dst then some ⟨o.dst, e, g⟩ else none
  | _, _ => none
def opersC (P : Program) (nt : Nat) (ops : Array Oper) : List Oper → Option (List EOper)
  | [] => some []
  | o :: os => match operC P nt ops o, opersC P nt ops os with
    | some e, some es => some (e :: es)
    | _, _ => none

/-- Operations that may float. -/
def EOp.floats : EOp → Bool
  | .load _ _ | .toStr _ | .slArr _ _ _ _ _ => true
  | o => o.calm

/-- What an operation looks at. -/
def optL : Option Opd → List Opd
  | none => []
  | some x => [x]
def EOp.opds : EOp → List Opd
  | .mov x => [x]
  | .pick c a b => [c, a, b]
  | .new _ => []
  | .box _ x => [x]
  | .build _ ps => ps.map (·.2.2)
  | .mklit _ _ _ ps => ps.map (·.2.2)
  | .load _ a => [a]
  | .store _ a x => [a, x]
  | .nilchk x => [x]
  | .bin _ _ x y => [x, y]
  | .isnil _ _ x => [x]
  | .un _ x => [x]
  | .toInt _ x => [x]
  | .same x => [x]
  | .toBytes x => [x]
  | .toStr x => [x]
  | .mkIface _ x => [x]
  | .mkFunc _ cap => cap
  | .mkMap => []
  | .mkMapN h => [h]
  | .mkSlice _ _ _ l c => [l, c]
  | .slStr x lo hi => x :: (optL lo ++ optL hi)
  | .sl _ x lo hi => x :: (optL lo ++ optL hi)
  | .slArr _ _ x lo hi => x :: (optL lo ++ optL hi)
  | .fldAddr _ x => [x]
  | .fld _ _ x => [x]
  | .ixAddrArr _ _ x i => [x, i]
  | .ixAddr _ x i => [x, i]
  | .ixArr _ _ _ x i => [x, i]
  | .ixStr x i => [x, i]
  | .ext x _ => [x]
  | .lenStr x => [x]
  | .lenSl x => [x]
  | .capSl x => [x]
  | .lenMap x => [x]
  | .append _ _ _ s x => [s, x]
  | .newT _ _ => []
  | .unsafeTo x => [x]
  | .unsafeFrom _ _ x => [x]
  | .ptrEq _ x y => [x, y]
  | .sliceData x => [x]
  | .unsafeStr _ x n => [x, n]
  | .copy _ d s => [d, s]
  | .clear _ x => [x]
  | .minmax _ x y => [x, y]
  | .call f args => f :: args
  | .lookup _ _ m k _ => [m, k]
  | .mapSet _ m k x => [m, k, x]
  | .mapEntry _ m k => [m, k]
  | .entrySet m s x => [m, s, x]
  | .delete _ m k => [m, k]
  | .range x => [x]
  | .next x => [x]
  | .mark x => [x]
  | .toFlt _ x => [x]
  | .fltInt _ x => [x]
  | .stuck => []
  | .assert _ _ x _ => [x]
  | .panic x => [x]
  | .recover => []
  | .defer f args => f :: args
def opdTmp : Opd → List Nat
  | .tmp t => [t]
  | _ => []
def EOper.reads (o : EOper) : List Nat := (match o.guard with | some (d, _) => [d] | none => []) ++ o.op.opds.flatMap opdTmp

/-- Operations that may write what is old. -/
def EOp.writes : EOp → Bool
  | .store _ _ _ | .append _ _ _ _ _ | .unsafeStr _ _ _ | .copy _ _ _ | .clear _ _ | .next _ | .mapSet _ _ _ _ | .mapEntry _ _ _ | .entrySet _ _ _ | .delete _ _ _ => true
  | _ => false
def EOp.calls : EOp → Bool
  | .call _ _ => true
  | _ => false
/-- Operations that read, and whose place may be fixed by what must stand ahead of them and behind them. -/
def EOp.pins : EOp → Bool
  | .load _ _ | .toStr _ | .slArr _ _ _ _ _ => true
  | _ => false
/-- The slots that lead into memory that the region itself lays. -/
def freshT : List EOper → List Nat → List Nat
  | [], a => a
  | o :: os, a => freshT os (match o.dst with
    | some d => if (match o.op with
      | .new _ | .box _ _ | .mklit _ _ _ _ | .newT _ _ | .mkSlice _ _ _ _ _ | .toBytes _ | .call _ _ => true
      | .mov (.tmp t) | .fldAddr _ (.tmp t) | .ixAddr _ (.tmp t) _ | .ixAddrArr _ _ (.tmp t) _ | .sl _ (.tmp t) _ _ | .slArr _ _ (.tmp t) _ _ | .nilchk (.tmp t) => a.contains t
      | _ => false) then d :: a else a
    | none => a)
def opAt (l : List EOper) (k : Nat) : EOp := (l.getD k ⟨none, .recover, none⟩).op
def freshC (l : List EOper) (k : Nat) : Bool := match opAt l k with
  | .load _ (.tmp t) | .toStr (.tmp t) | .slArr _ _ (.tmp t) _ _ => (freshT l []).contains t
  | _ => false
def orderC (b : Array Nat) (i k : Nat) : Bool := if i < k then (b.getD k 0).testBit i else (b.getD i 0).testBit k
def strictC (b : Array Nat) (l : List EOper) (k : Nat) : Bool := (List.range l.length).all fun i => i == k || (opAt l i).calm || orderC b i k
/-- Is the place of an operation among all that hang on memory fixed (among all that write and lay, if it reads what the region lays)? b: for each operation, which must come before it. -/
def pinC (b : Array Nat) (l : List EOper) (k : Nat) : Bool :=
  (opAt l k).pins && (strictC b l k || (freshC l k && (List.range l.length).all fun i => i == k || (opAt l i).calm || orderC b i k || ((opAt l i).pins && !freshC l i && !strictC b l i)))
/-- Where something is written ahead of the cut: reads whose place is fixed among all that write and lay, and among each other; the last ones first. -/
def extraC (b : Array Nat) (l : List EOper) (q : Nat) : List Nat :=
  if (l.take q).any (fun o => o.op.writes) then
    (List.range (min q l.length)).foldr (fun k acc => if (opAt l k).pins && !pinC b l k && (List.range l.length).all (fun i => i == k || (opAt l i).calm || orderC b i k || ((opAt l i).pins && !pinC b l i && decide (i < q) && !acc.contains i)) then k :: acc else acc) []
  else []
/-- Which operations of a drawn region float: none behind the cut, and none whose place is fixed. -/
def floatsC (b : Array Nat) (l : List EOper) (q k : Nat) : Bool := ((opAt l k).calm || ((opAt l k).floats && decide (k < q))) && !pinC b l k && !(extraC b l q).contains k
def flagsC (ops : Array Oper) (l : List EOper) (q : Nat) : List Bool :=
  let b := Region.before ops
  (List.range l.length).map (floatsC b l q)
/-- From where on every operation comes behind all that stand ahead of it; the length, if none of these writes. -/
def cutC (ops : Array Oper) (l : List EOper) : Nat :=
  let b := Region.before ops
  let n := ops.size
  let q := n - ((List.range n).reverse.takeWhile fun j => (opAt l j).calm || (List.range j).all fun i => (opAt l i).calm || (b.getD j 0).testBit i).length
  if (l.drop q).any (fun o => o.op.writes || o.op.calls) then q else n

/-- Is a region's order free in nothing but what floats? b: for each operation, which must come before it. q: from there on the order is not free. -/
def drawOk (ops : Array Oper) (l : List EOper) (q : Nat) : Bool :=
  let b := Region.before ops
  let n := ops.size
  let e (i : Nat) : EOper := l.getD i ⟨none, .recover, none⟩
  (List.range n).all fun j =>
    (ops.getD j default).after.all (fun x => !Region.binds .any x || decide (x.on < j)) &&
    (List.range n).all fun i =>
      (!(b.getD j 0).testBit i || (ops.getD j default).after.any fun x => Region.binds .any x && (x.on == i || (b.getD x.on 0).testBit i)) &&
      (i == j || (e i).dst.isNone || (e i).dst != (e j).dst) &&
      (i == j || !(e j).reads.any (fun t => (e i).dst == some t) || (if i < j then (b.getD j 0).testBit i else (b.getD i 0).testBit j)) &&
      (!decide (i < j) || floatsC b l q i || floatsC b l q j || (b.getD j 0).testBit i) &&
      (!decide (i < j) || decide (j < q) || (e i).op.calm || (e j).op.calm || (b.getD j 0).testBit i)

/-- Is something written ahead of the cut into what an operation lays? -/
def storedC (l : List EOper) (q k : Nat) : Bool := match (l.getD k ⟨none, .recover, none⟩).dst with
  | some d => (l.take q).any fun o => match o.op with
    | .store _ (.tmp t) _ => t == d
    | _ => false
  | none => false
/-- The operations of a drawn region that lay something of known content ahead of the cut. -/
def latC (ops : Array Oper) (l : List EOper) (q : Nat) : List Nat := (List.range l.length).filter fun k => decide (k < q) && (lateB (opAt l k)).isSome && ((l.getD k ⟨none, .recover, none⟩).guard).isNone && (match (ops.getD k default).op with | .alloc _ | .makeMap _ none => true | _ => false) && !storedC l q k
def floatsL (ops : Array Oper) (b : Array Nat) (l : List EOper) (q k : Nat) : Bool := floatsC b l q k || (latC ops l q).contains k
def flagsL (ops : Array Oper) (l : List EOper) (q : Nat) : List Bool :=
  let b := Region.before ops
  (List.range l.length).map (floatsL ops b l q)
/-- As drawOk, where what is of known content may be laid at any time ahead of the cut. -/
def lateOk (ops : Array Oper) (l : List EOper) (q : Nat) : Bool :=
  let b := Region.before ops
  let n := ops.size
  let e (i : Nat) : EOper := l.getD i ⟨none, .recover, none⟩
  (List.range n).all fun j =>
    (ops.getD j default).after.all (fun x => !Region.binds .any x || decide (x.on < j)) &&
    (List.range n).all fun i =>
      (!(b.getD j 0).testBit i || (ops.getD j default).after.any fun x => Region.binds .any x && (x.on == i || (b.getD x.on 0).testBit i)) &&
      (i == j || (e i).dst.isNone || (e i).dst != (e j).dst) &&
      (i == j || !(e j).reads.any (fun t => (e i).dst == some t) || (if i < j then (b.getD j 0).testBit i else (b.getD i 0).testBit j)) &&
      (!decide (i < j) || floatsL ops b l q i || floatsL ops b l q j || (b.getD j 0).testBit i) &&
      (!decide (i < j) || decide (j < q) || (e i).op.calm || (e j).op.calm || (b.getD j 0).testBit i)

def codeC (P : Program) (nt : Nat) : Code → Option ECode
  | .skip => some .skip
  | .region _ ops false => (opersC P nt ops ops.toList).map .reg
  | .region _ ops true => match opersC P nt ops ops.toList with
    | some l => if drawOk ops l (cutC ops l) = true then some (.regD l (flagsC ops l (cutC ops l)) (cutC ops l))
      else if lateOk ops l (cutC ops l) = true then some (.regL (latC ops l (cutC ops l)) l (flagsL ops l (cutC ops l)) (cutC ops l)) else some (.cond (.con undefE) .skip .skip)
    | none => none
  | .seq a b => match codeC P nt a, codeC P nt b with
    | some a, some b => some (.seq a b)
    | _, _ => none
  | .cond c a b => match opdC c, codeC P nt a, codeC P nt b with
    | some c, some a, some b => some (.cond c a b)
    | _, _, _ => none
  | .block id c => (codeC P nt c).map (.block id)
  | .loop c => (codeC P nt c).map .loop
  | .exit id => some (.exit id)
  | .ret => some .ret
  | _ => some (.cond (.con undefE) .skip .skip)

def resC (P : Program) : List ResultVar → Option (List ERes)
  | [] => some []
  | .tmp t :: rs => (resC P rs).map (.tmp t :: ·)
  | .cell a t :: rs => match aggC P t, resC P rs with
    | some n, some l => some (.cell a n :: l)
    | _, _ => none

/-- The number of a function without a Go body. -/
def primC (P : Program) (name : String) : Option Nat :=
  if name = "internal/bytealg.IndexByteString" then some 1
  else if name = "internal/abi.NoEscape" then some 2
  else if name = "math.Float64frombits" then some 3
  else if name = "internal/bytealg.CountString" then some 4
  else if name = "internal/bytealg.IndexByte" then some 5
  else if name = "internal/bytealg.Index" then (P.globals.findIdx? (·.name == "internal/bytealg.MaxLen")).map (· + 10)
  else if name = "internal/bytealg.IndexString" then (P.globals.findIdx? (·.name == "internal/bytealg.MaxLen")).map (· + 10)
  else none

/-- bytealg.MakeNoZero. -/
def mnzC (P : Program) (fn : Func) : Option EFunc := match fn.resultTypes[0]? with
  | some t => match P.underlying t with
    | some (.slice e) => some ⟨[], .skip, some (.mnz (tagC P e))⟩
    | _ => none
  | none => none
def funC (P : Program) (fn : Func) : Option EFunc :=
  match fn.body with
  | none => if fn.origin = "" then (if fn.name = "internal/bytealg.MakeNoZero" then mnzC P fn else match primC P fn.name with
    | some n => some ⟨[], .skip, some (.num n)⟩
    | none => none) else none
  | some c => if fn.name == "runtime.NumGoroutine" then none else
    match codeC P fn.ntmps c, resC P fn.results.toList with
    | some b, some r => some ⟨r, b, if fn.name.endsWith ".spoil" then some .weak else none⟩
    | _, _ => none

def getF (P : Program) (f : FuncId) : Option EFunc := (P.funcs[f]?).bind (funC P)

end Go.Ev
