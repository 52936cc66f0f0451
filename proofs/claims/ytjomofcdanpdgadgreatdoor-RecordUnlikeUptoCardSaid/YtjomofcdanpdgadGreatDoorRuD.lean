/- A part of the proof of the statement that this claim hands in: what single functions come to. There are no conditions. -/
import Derived.Test.YtjomofcdanpdgadGreatDoorRuC1
import Derived.Test.YtjomofcdanpdgadGreatDoorRuC2
import Derived.Test.YtjomofcdanpdgadGreatDoorRuEv21
set_option linter.unusedSimpArgs false
set_option linter.unusedSectionVars false
set_option linter.unusedVariables false
namespace Go.Proofs.YtjomofcdanpdgadGreatDoor.recordUnlike
open Go.Ev hiding Comes
variable {G : Globs}

structure PathD where
  kind : Int
  route : List HostD
  loc : List UInt8
  host : HostD
  deriving DecidableEq
structure MarkD where
  a : Int
  b : Bool
  s : List UInt8
  deriving DecidableEq
structure RecD where
  path : PathD
  mark : MarkD
  deriving DecidableEq
structure OptsD where
  b1 : Bool
  i1 : Int
  i2 : Int
  b2 : Bool
  i3 : Int
  b3 : Bool
  s1 : List UInt8
  b4 : Bool
  s2 : List UInt8
  deriving DecidableEq
structure EnvD where
  helo : HostD
  peer : HostD
  user : List UInt8
  ext : Bool
  time : Int
  «from» : PathD
  opts : OptsD
  to : List RecD
  mark : Bool
  body : List UInt8
  deriving DecidableEq

def boxC (p : PathD) : List EV := .str p.loc :: hostC p.host
def pathC (p : PathD) (rv : EV) : List EV := [.int .i64 p.kind] ++ ([rv] ++ boxC p)
def markC (r : MarkD) : List EV := [.int .i64 r.a, .bool r.b, .str r.s]
def recC (r : RecD) (rv : EV) : List EV := pathC r.path rv ++ markC r.mark
def optsC (o : OptsD) : List EV := [.bool o.b1, .int .i64 o.i1, .int .i64 o.i2, .bool o.b2, .int .i64 o.i3, .bool o.b3, .str o.s1, .bool o.b4, .str o.s2]
def envC (e : EnvD) (rv tv bv : EV) : List EV :=
  hostC e.helo ++ (hostC e.peer ++ ([.str e.user] ++ ([.bool e.ext] ++ ([.int .i64 e.time] ++ (pathC e.from rv ++ (optsC e.opts ++ ([tv] ++ ([.bool e.mark] ++ [bv]))))))))

def HostOk (h : HostD) : Prop := h.addr.length = 16
def PathOk (p : PathD) : Prop := HostOk p.host ∧ (∀ h ∈ p.route, HostOk h) ∧ p.route.length ≤ 2000000

theorem hostC_len {h : HostD} (k : HostOk h) : (hostC h).length = 18 := by
  have k : h.addr.length = 16 := k
  simp [hostC, k]
theorem boxC_len {p : PathD} (k : HostOk p.host) : (boxC p).length = 19 := by simp [boxC, hostC_len k]
theorem pathC_len {p : PathD} {rv : EV} (k : HostOk p.host) : (pathC p rv).length = 21 := by simp [pathC, boxC_len k]
theorem recC_len {r : RecD} {rv : EV} (k : HostOk r.path.host) : (recC r rv).length = 24 := by simp [recC, pathC_len k, markC]
theorem envC_len {e : EnvD} {rv tv bv : EV} (k1 : HostOk e.helo) (k2 : HostOk e.peer) (k : HostOk e.from.host) : (envC e rv tv bv).length = 72 := by
  simp [envC, pathC_len k, hostC_len k1, hostC_len k2, optsC]

theorem path_kind {p : PathD} {rv : EV} : Sub (pathC p rv) 0 1 [.int .i64 p.kind] := sub_here rfl
theorem path_route {p : PathD} {rv : EV} : Sub (pathC p rv) 1 1 [rv] := sub_skip (k := 1) rfl (sub_here rfl)
theorem path_box {p : PathD} {rv : EV} (k : HostOk p.host) : Sub (pathC p rv) 2 19 (boxC p) := sub_skip (k := 1) rfl (sub_skip (k := 1) rfl (sub_all (boxC_len k)))
theorem rec_path {r : RecD} {rv : EV} (k : HostOk r.path.host) : Sub (recC r rv) 0 21 (pathC r.path rv) := sub_here (pathC_len k)
theorem rec_mark {r : RecD} {rv : EV} (k : HostOk r.path.host) : Sub (recC r rv) 21 3 (markC r.mark) := sub_skip (k := 21) (pathC_len k) (sub_all rfl)
theorem rec_orig {r : RecD} {rv : EV} (k : HostOk r.path.host) : Sub (recC r rv) 23 1 [.str r.mark.s] := sub_skip (k := 21) (pathC_len k) (sub_skip (a := [.int .i64 r.mark.a, .bool r.mark.b]) (k := 2) rfl (sub_all rfl))

section
variable {e : EnvD} {rv tv bv : EV}
theorem env_all (k1 : HostOk e.helo) (k2 : HostOk e.peer) (k : HostOk e.from.host) : Sub (envC e rv tv bv) 0 72 (envC e rv tv bv) := sub_all (envC_len k1 k2 k)
theorem env_helo (k1 : HostOk e.helo) : Sub (envC e rv tv bv) 0 18 (hostC e.helo) := sub_here (hostC_len k1)
theorem env_peer (k1 : HostOk e.helo) (k2 : HostOk e.peer) : Sub (envC e rv tv bv) 18 18 (hostC e.peer) := sub_skip (k := 18) (hostC_len k1) (sub_here (hostC_len k2))
theorem env_skip2 (k1 : HostOk e.helo) (k2 : HostOk e.peer) {off n : Nat} {ds : List EV} (h : Sub ([.str e.user] ++ ([.bool e.ext] ++ ([.int .i64 e.time] ++ (pathC e.from rv ++ (optsC e.opts ++ ([tv] ++ ([.bool e.mark] ++ [bv]))))))) off n ds) : Sub (envC e rv tv bv) (18 + (18 + off)) n ds :=
  sub_skip (k := 18) (hostC_len k1) (sub_skip (k := 18) (hostC_len k2) h)
theorem env_user (k1 : HostOk e.helo) (k2 : HostOk e.peer) : Sub (envC e rv tv bv) 36 1 [.str e.user] := env_skip2 k1 k2 (off := 0) (sub_here rfl)
theorem env_ext (k1 : HostOk e.helo) (k2 : HostOk e.peer) : Sub (envC e rv tv bv) 37 1 [.bool e.ext] := env_skip2 k1 k2 (off := 1 + 0) (sub_skip rfl (sub_here rfl))
theorem env_time (k1 : HostOk e.helo) (k2 : HostOk e.peer) : Sub (envC e rv tv bv) 38 1 [.int .i64 e.time] := env_skip2 k1 k2 (off := 1 + (1 + 0)) (sub_skip rfl (sub_skip rfl (sub_here rfl)))
theorem env_from (k1 : HostOk e.helo) (k2 : HostOk e.peer) (k : HostOk e.from.host) : Sub (envC e rv tv bv) 39 21 (pathC e.from rv) := env_skip2 k1 k2 (off := 1 + (1 + (1 + 0))) (sub_skip rfl (sub_skip rfl (sub_skip rfl (sub_here (pathC_len k)))))
theorem env_opts (k1 : HostOk e.helo) (k2 : HostOk e.peer) (k : HostOk e.from.host) : Sub (envC e rv tv bv) 60 9 (optsC e.opts) := env_skip2 k1 k2 (off := 1 + (1 + (1 + (21 + 0)))) (sub_skip rfl (sub_skip rfl (sub_skip rfl (sub_skip (pathC_len k) (sub_here rfl)))))
theorem env_to (k1 : HostOk e.helo) (k2 : HostOk e.peer) (k : HostOk e.from.host) : Sub (envC e rv tv bv) 69 1 [tv] := env_skip2 k1 k2 (off := 1 + (1 + (1 + (21 + (9 + 0))))) (sub_skip rfl (sub_skip rfl (sub_skip rfl (sub_skip (pathC_len k) (sub_skip rfl (sub_here rfl))))))
theorem env_mark (k1 : HostOk e.helo) (k2 : HostOk e.peer) (k : HostOk e.from.host) : Sub (envC e rv tv bv) 70 1 [.bool e.mark] := env_skip2 k1 k2 (off := 1 + (1 + (1 + (21 + (9 + (1 + 0)))))) (sub_skip rfl (sub_skip rfl (sub_skip rfl (sub_skip (pathC_len k) (sub_skip rfl (sub_skip rfl (sub_here rfl)))))))
theorem env_body (k1 : HostOk e.helo) (k2 : HostOk e.peer) (k : HostOk e.from.host) : Sub (envC e rv tv bv) 71 1 [bv] := env_skip2 k1 k2 (off := 1 + (1 + (1 + (21 + (9 + (1 + (1 + 0))))))) (sub_skip rfl (sub_skip rfl (sub_skip rfl (sub_skip (pathC_len k) (sub_skip rfl (sub_skip rfl (sub_skip rfl (sub_all rfl))))))))
end

/-! ### Where data lies -/
def PathAt (G : Globs) (m : Mem) (cs : List EV) (p : PathD) : Prop := ∃ rv, cs = pathC p rv ∧ RowsAt G m 18 rv (p.route.map hostC) ∧ PathOk p
def RecAt (G : Globs) (m : Mem) (cs : List EV) (r : RecD) : Prop := ∃ rv, cs = recC r rv ∧ PathAt G m (pathC r.path rv) r.path
/-- Recipients at a slice. -/
def RecsAt (G : Globs) (m : Mem) (v : EV) (l : List RecD) : Prop := ∃ rows : List (List EV), RowsAt G m 24 v rows ∧ rows.length = l.length ∧ ∀ (i : Nat) (r : RecD), l[i]? = some r → ∃ cs, rows[i]? = some cs ∧ RecAt G m cs r
def EnvAt (G : Globs) (m : Mem) (cs : List EV) (e : EnvD) : Prop :=
  ∃ rv tv bv, cs = envC e rv tv bv ∧ HostOk e.helo ∧ HostOk e.peer ∧ PathAt G m (pathC e.from rv) e.from ∧ RecsAt G m tv e.to ∧ BytesAt G m bv e.body ∧ e.to.length ≤ 2000000 ∧ e.body.length ≤ 2000000

theorem rows_grown {m M : Mem} (h : Grown m M) {esz : Nat} {v : EV} {rows : List (List EV)} (k : RowsAt G m esz v rows) : RowsAt G M esz v rows := by
  rcases k with ⟨e, rfl, rfl⟩ | ⟨a, cap, e, rfl, ho, hg⟩
  · exact .inl ⟨e, rfl, rfl⟩
  · refine .inr ⟨a, cap, e, rfl, fun hne => ?_, fun i r hr => getN_grown h (hg i r hr)⟩
    have ho := ho hne
    have := h.le
    unfold oldAd at ho ⊢
    split at ho
    · rfl
    · simp at ho ⊢; omega
theorem bytes_grown {m M : Mem} (h : Grown m M) {v : EV} {s : List UInt8} (k : BytesAt G m v s) : BytesAt G M v s := by
  rcases k with ⟨e, rfl, rfl⟩ | ⟨a, cap, e, rfl, hg⟩
  · exact .inl ⟨e, rfl, rfl⟩
  · exact .inr ⟨a, cap, e, rfl, getN_grown h hg⟩
theorem PathAt.grown {m M : Mem} (h : Grown m M) {cs : List EV} {p : PathD} (k : PathAt G m cs p) : PathAt G M cs p :=
  let ⟨rv, e, hr, ok⟩ := k; ⟨rv, e, rows_grown h hr, ok⟩
theorem RecAt.grown {m M : Mem} (h : Grown m M) {cs : List EV} {p : RecD} (k : RecAt G m cs p) : RecAt G M cs p :=
  let ⟨rv, e, hp⟩ := k; ⟨rv, e, hp.grown h⟩
theorem RecsAt.grown {m M : Mem} (h : Grown m M) {v : EV} {l : List RecD} (k : RecsAt G m v l) : RecsAt G M v l :=
  let ⟨rows, hr, hl, hx⟩ := k; ⟨rows, rows_grown h hr, hl, fun i r hi => let ⟨cs, h1, h2⟩ := hx i r hi; ⟨cs, h1, h2.grown h⟩⟩
theorem EnvAt.grown {m M : Mem} (h : Grown m M) {cs : List EV} {e : EnvD} (k : EnvAt G m cs e) : EnvAt G M cs e :=
  let ⟨rv, tv, bv, e1, h1, h2, h3, h4, h5, h6⟩ := k; ⟨rv, tv, bv, e1, h1, h2, h3.grown h, h4.grown h, bytes_grown h h5, h6⟩

theorem rows_slice {m : Mem} {esz : Nat} {v : EV} {rows : List (List EV)} (h : RowsAt G m esz v rows) : ∃ a cap e, v = .slice a rows.length cap e := by
  rcases h with ⟨e, rfl, rfl⟩ | ⟨a, cap, e, rfl, _⟩
  · exact ⟨none, 0, e, rfl⟩
  · exact ⟨some a, cap, e, rfl⟩
theorem rows_at {m : Mem} {esz : Nat} {a : Option Ad} {len cap e : Nat} {rows : List (List EV)} (h : RowsAt G m esz (.slice a len cap e) rows) {i : Nat} (hi : i < rows.length) : ∃ a', a = some a' ∧ oldAd m.bl.length a' = true ∧ m.getN G (a'.plus (i * esz)) esz = some rows[i] := by
  obtain ⟨a', _, _, he, h1, h2⟩ := row_get h hi
  cases he
  exact ⟨a', rfl, h1, h2⟩

theorem PathAt.len {m : Mem} {cs : List EV} {p : PathD} (k : PathAt G m cs p) : cs.length = 21 := by
  obtain ⟨rv, rfl, _, ok⟩ := k
  exact pathC_len ok.1
theorem RecAt.len {m : Mem} {cs : List EV} {p : RecD} (k : RecAt G m cs p) : cs.length = 24 := by
  obtain ⟨rv, rfl, k⟩ := k
  obtain ⟨_, _, _, ok⟩ := k
  exact recC_len ok.1
theorem EnvAt.len {m : Mem} {cs : List EV} {e : EnvD} (k : EnvAt G m cs e) : cs.length = 72 := by
  obtain ⟨rv, tv, bv, rfl, h1, h2, ⟨_, _, _, ok⟩, _⟩ := k
  exact envC_len h1 h2 ok.1

/-! ### Equality of rows of cells -/
theorem eq_box (a b : PathD) (ha : HostOk a.host) (hb : HostOk b.host) : eqCells [3, 2, 3, 2, 2, 2, 2, 2, 2, 2, 2, 2, 2, 2, 2, 2, 2, 2, 2] (boxC a) (boxC b) = some (decide (a.loc = b.loc) && decide (a.host = b.host)) := by
  have h := eq_host a.host b.host ha hb
  simp only [boxC, eqCells, eqCell, h]
  congr 2
  rw [Bool.eq_iff_iff]
  simp
theorem eq_mark (a b : MarkD) : eqCells [2, 1, 3] (markC a) (markC b) = some (decide (a = b)) := by
  obtain ⟨a1, a2, a3⟩ := a
  obtain ⟨b1, b2, b3⟩ := b
  simp only [markC, eqCells, eqCell, if_true]
  congr 1
  by_cases h1 : a1 = b1 <;> by_cases h2 : a2 = b2 <;> by_cases h3 : a3 = b3 <;> simp [h1, h2, h3]
theorem eq_opts (a b : OptsD) : eqCells [1, 2, 2, 1, 2, 1, 3, 1, 3] (optsC a) (optsC b) = some (decide (a = b)) := by
  obtain ⟨a1, a2, a3, a4, a5, a6, a7, a8, a9⟩ := a
  obtain ⟨b1, b2, b3, b4, b5, b6, b7, b8, b9⟩ := b
  simp only [optsC, eqCells, eqCell, if_true]
  congr 1
  rw [Bool.eq_iff_iff]
  simp [and_assoc]
theorem path_eq (a b : PathD) : ((a.kind == b.kind) && (decide (a.loc = b.loc) && decide (a.host = b.host)) && decide (a.route = b.route)) = decide (a = b) := by
  obtain ⟨a1, a2, a3, a4⟩ := a
  obtain ⟨b1, b2, b3, b4⟩ := b
  rw [Bool.eq_iff_iff]
  simp only [Bool.and_eq_true, beq_iff_eq, decide_eq_true_eq, PathD.mk.injEq]
  constructor
  · rintro ⟨⟨h1, h2, h3⟩, h4⟩; exact ⟨h1, h4, h2, h3⟩
  · rintro ⟨h1, h4, h2, h3⟩; exact ⟨⟨h1, h2, h3⟩, h4⟩
theorem rec_eq (a b : RecD) : (decide (a.path = b.path) && decide (a.mark = b.mark)) = decide (a = b) := by
  obtain ⟨a1, a2⟩ := a
  obtain ⟨b1, b2⟩ := b
  rw [Bool.eq_iff_iff]
  simp
end Go.Proofs.YtjomofcdanpdgadGreatDoor.recordUnlike
