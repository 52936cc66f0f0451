/- The engine, part 10: whatever a resolved operation that calls nothing does, the machine's operation does. There are no conditions. -/
import Derived.Test.YthmmoahdobpfoaaGreatDoorXEv9
import Derived.Test.YthmmoahdobpfoaaGreatDoorXEv91
import Derived.Test.YthmmoahdobpfoaaGreatDoorXEv92
import Derived.Test.YthmmoahdobpfoaaGreatDoorXEv4
set_option linter.unusedSectionVars false
set_option linter.unusedVariables false
set_option linter.unusedSimpArgs false
namespace Go.Ev
open Go.RowKit (Below)

section
variable {P : Program} {G : Globs} {base : Nat} {w0 w : World} {j : Inj} {m : Mem} {nt : Nat} {A : Fr} {a : Act}

/-- The machine's operation comes to what the evaluator's does. -/
def Does (P : Program) (G : Globs) (base : Nat) (w0 : World) (j : Inj) (m : Mem) (w : World) (s : Sem Next) (r : EV × Mem) : Prop :=
  ∃ j' v w', (s.run P w = .ok (.value v) w' ∨ (s.run P w = .ok .skip w' ∧ v = undef)) ∧ Ext j m j' r.2 ∧ MemRel G base w0 j' r.2 w' ∧ VRel j' r.2 r.1 v

theorem Runs.does {s : Sem Value} {r : EV × Mem} (h : Runs P G base w0 j m w s r) : Does P G base w0 j m w (do pure (.value (← s))) r := by
  obtain ⟨j', v, w', h1, h2, h3, h4⟩ := h
  exact ⟨j', v, w', .inl (by simp [h1]), h2, h3, h4⟩

theorem bin_run (hm : MemRel G base w0 j m w) (op : BinOp) (t : TypeId) (xo yo : Operand) {x y r : EV} (h : binE op (eqC P t) x y = some r) {u v : Value} (hx : VRel j m x u) (hy : VRel j m y v) :
    Runs P G base w0 j m w (do eqGuard op t xo yo u v; binOp op t u v) (r, m) := by
  cases x with
  | int k n =>
    cases y with
    | int k' n' =>
      cases hx
      cases hy
      have hg : eqGuard op t xo yo (.int k n) (.int k' n') = pure () := eqGuard_at_int ..
      by_cases hsh : op = .shl ∨ op = .shr
      · have h' : shiftE op k n n' = some r := by
          simp only [binE] at h
          rcases hsh with rfl | rfl <;> exact h
        obtain ⟨z, hz, hr⟩ := shift_run (P := P) (k' := k') h' t w
        exact .same hm (by simp only [Sem.run_bind, hg, Sem.run_pure, Result.andThen_ok]; exact hz) (hr j m)
      · have h' : k = k' ∧ binInt op k n n' = some r := by
          simp only [binE] at h
          cases op <;> simp only at h <;> first | (exact absurd (.inl rfl) hsh) | (exact absurd (.inr rfl) hsh) | skip
          all_goals
            split at h
            · rename_i e; exact ⟨e, h⟩
            · cases h
        obtain ⟨rfl, h'⟩ := h'
        obtain ⟨z, hz, hr⟩ := binInt_run (P := P) h' t w
        exact .same hm (by simp only [Sem.run_bind, hg, Sem.run_pure, Result.andThen_ok]; exact hz) (hr j m)
    | _ => simp [binE] at h
  | str s =>
    cases y with
    | str s' =>
      cases hx
      cases hy
      obtain ⟨z, hz, hr⟩ := binStr_run (P := P) (by simpa only [binE] using h) t w
      have hg : eqGuard op t xo yo (.string ⟨s.toArray⟩) (.string ⟨s'.toArray⟩) = pure () := eqGuard_at_string ..
      exact .same hm (by simp only [Sem.run_bind, hg, Sem.run_pure, Result.andThen_ok]; exact hz) (hr j m)
    | _ => simp [binE] at h
  | flt k n =>
    cases y with
    | flt k' n' =>
      cases hx
      cases hy
      simp only [binE] at h
      split at h
      case isFalse => cases h
      rename_i e
      subst e
      obtain ⟨z, hz, hr⟩ := binFlt_run (P := P) h t w
      have hg : eqGuard op t xo yo (.float k n) (.float k n') = pure () := eqGuard_at_float ..
      exact .same hm (by simp only [Sem.run_bind, hg, Sem.run_pure, Result.andThen_ok]; exact hz) (hr j m)
    | _ => simp [binE] at h
  | bool b =>
    cases y with
    | bool b' =>
      cases hx
      cases hy
      have hq : eqC P t = [9] := by
        simp only [binE] at h
        split at h
        · assumption
        · cases h
      have hu : P.underlying t = some .bool := by
        have h9 : ∀ (c : Bool) (f : Option (List Nat)), (if c then [0] else match f with
            | some ks => if ks = [9] then [0] else ks
            | none => [0]) ≠ [9] := by
          intro c f
          cases c <;> cases f <;> simp
          rename_i ks
          by_cases e : ks = [9] <;> simp [e]
        unfold eqC at hq
        split at hq
        · assumption
        · exact absurd hq (h9 _ _)
        · exact absurd hq (h9 _ _)
        · cases hq
      rw [hq] at h
      obtain ⟨z, hz, hr⟩ := run_eqBool (P := P) (j := j) (m := m) (w := w) hu op xo yo h
      exact .same hm hz hr
    | _ => simp [binE] at h
  | agg xs =>
    cases y with
    | agg ys =>
      obtain ⟨z, hz, hr⟩ := run_eqAgg (P := P) (w := w) hx hy h
      exact .same hm hz hr
    | _ => simp [binE] at h
  | _ => simp [binE] at h

theorem opt_some {α : Type} {o : Option α} {f : α → EV × Mem} {r : EV × Mem} (h : o.map f = some r) : ∃ x, o = some x ∧ r = f x := by
  obtain ⟨x, hx, e⟩ := Option.map_eq_some_iff.1 h
  exact ⟨x, hx, e.symm⟩

theorem tagC_spec {e : TypeId} (h : typeK ≤ tagC P e) : e + 1 = tagC P e / typeK ∧ tagC P e % typeK ≠ 0 := by
  unfold tagC at h ⊢
  split at h
  · rw [Nat.mul_add_div (by decide), Nat.mul_add_mod]
    exact ⟨Nat.add_comm e 1, by decide⟩
  · exact absurd h (by decide)

theorem map1 (f : Operand → Value) (x : Operand) : Array.map f ⟨[x]⟩ = #[f x] := by simp
theorem map2 (f : Operand → Value) (x y : Operand) : Array.map f ⟨[x, y]⟩ = #[f x, f y] := by simp

theorem quiet_builtin (hm : MemRel G base w0 j m w) (hf : FRel j m nt A a.tmps) {b : Builtin} {ts : Array TypeId} {args : Array Operand} {e : EOp} (hc : builtinC P b ts.toList args.toList = some e) (hq : e.quiet = true) {r : EV × Mem} (h : evVal G e A m = some r)
    (type : TypeId) (consts : Array Bool) : Does P G base w0 j m w (builtin b ts type consts (args.map a.eval)) r := by
  obtain ⟨ts⟩ := ts
  obtain ⟨args⟩ := args
  simp only at hc
  unfold builtinC at hc
  split at hc
  · rename_i t x
    split at hc
    · rename_i hu
      obtain ⟨y, hy, rfl⟩ := Option.map_eq_some_iff.1 hc
      have hx := opdC_rel hf hy
      simp only [evVal] at h
      split at h
      case h_2 => cases h
      rename_i s he
      cases h
      rw [he] at hx
      rw [map1]
      exact (run_lenStr (ty := type) hm hu hx).does
    · rename_i e hu
      obtain ⟨y, hy, rfl⟩ := Option.map_eq_some_iff.1 hc
      have hx := opdC_rel hf hy
      simp only [evVal] at h
      split at h
      case h_2 => cases h
      rename_i s n c z he
      cases h
      rw [he] at hx
      rw [map1]
      exact (run_lenSlice (ty := type) hm hu hx).does
    · rename_i k e hu
      obtain ⟨y, hy, rfl⟩ := Option.map_eq_some_iff.1 hc
      have hx := opdC_rel hf hy
      simp only [evVal] at h
      split at h
      · rename_i he
        cases h
        rw [he] at hx
        rw [map1]
        exact (run_lenNilMap (ty := type) hm hu hx).does
      · rename_i r0 he
        rw [he] at hx
        split at h
        · rename_i es ck hb
          cases h
          rw [map1]
          exact (run_lenMap (ty := type) hm hu hx hb).does
        · cases h
      · cases h
    · rename_i n e hu
      cases hc
      simp only [evVal, opd] at h
      cases h
      rw [map1]
      exact (Runs.same hm (s := Builtin.len_ #[t] type #[a.eval x]) (x := .int .i64 n) (v := .int .i64 n) (by simp [Builtin.len_, run_underlying hu, goInt]) rfl).does
    · rename_i pt hu
      split at hc
      · rename_i n e hpt
        cases hc
        simp only [evVal, opd] at h
        cases h
        rw [map1]
        exact (Runs.same hm (s := Builtin.len_ #[t] type #[a.eval x]) (x := .int .i64 n) (v := .int .i64 n) (by simp [Builtin.len_, run_underlying hu, run_underlying hpt, goInt]) rfl).does
      · cases hc
    · cases hc
  · rename_i t x
    split at hc
    case h_2 => cases hc
    rename_i e hu
    obtain ⟨y, hy, rfl⟩ := Option.map_eq_some_iff.1 hc
    have hx := opdC_rel hf hy
    simp only [evVal] at h
    split at h
    case h_2 => cases h
    rename_i n c z he
    cases h
    rw [he] at hx
    rw [map1]
    exact (run_capNil (ty := type) hm hu hx).does
  · rename_i t u x y
    split at hc
    case h_2 => cases hc
    rename_i e hu
    split at hc
    case h_2 => cases hc
    rename_i i x' y' hi hx' hy'
    have hx := opdC_rel hf hx'
    have hy := opdC_rel hf hy'
    have fin : (zeroC P e).map (·.cells.length) = some i.size → i.bytes ≠ 0 → (P.underlying u = some .string ∨ ∃ e', P.underlying u = some (.slice e')) → evVal G (.append i.size i.bytes (tagC P e) x' y') A m = some r →
        Does P G base w0 j m w (builtin .append #[t, u] type consts (#[x, y].map a.eval)) r := by
      intro hz hb hud hev
      obtain ⟨z, hz, hzl⟩ := Option.map_eq_some_iff.1 hz
      unfold zeroC at hz
      obtain ⟨i', hi', hz⟩ := Option.bind_eq_some_iff.1 hz
      rw [hi] at hi'
      cases hi'
      obtain ⟨zv, hzv, hzc⟩ := Option.bind_eq_some_iff.1 hz
      have hzs : zv.cells.size = i.size := by
        rw [← hzl]
        simpa using (constE_rel (j := j) (m := m) hzc).cells.length
      simp only [evVal] at hev
      have htag : typeK ≤ tagC P e → e + 1 = tagC P e / typeK ∧ tagC P e % typeK ≠ 0 := tagC_spec
      split at hev
      · rename_i new n hsrc
        have := (run_append (ty := type) hm hu hi hzv hzs hb hud hx hy hsrc htag hev).does
        simp only [List.map_toArray, List.map_cons, List.map_nil]
        exact this
      · cases hev
    split at hc
    · rename_i hud
      split at hc
      · cases hc
      rename_i hcond
      cases hc
      rw [map2]
      have := fin ?_ (fun e => hcond (.inr (.inr e))) (.inl hud) h
      · simpa using this
      exact Classical.byContradiction fun e => hcond (.inr (.inl e))
    · rename_i e' hud
      split at hc
      · cases hc
      rename_i hcond
      cases hc
      rw [map2]
      have := fin ?_ (fun e => hcond (.inr (.inr e))) (.inr ⟨e', hud⟩) h
      · simpa using this
      exact Classical.byContradiction fun e => hcond (.inr (.inl e))
    · cases hc
  · rename_i t u x y
    split at hc
    case h_2 => cases hc
    rename_i e hu
    split at hc
    case h_2 => cases hc
    rename_i n x' y' hn hx' hy'
    cases hc
    have hx := opdC_rel hf hx'
    have hy := opdC_rel hf hy'
    simp only [evVal] at h
    split at h
    case h_2 => cases h
    rename_i sa len cap ez hs
    rw [hs] at hx
    split at h
    case h_2 => cases h
    rename_i new k hsrc
    obtain ⟨hlen, hnl, hno, hfirst⟩ := src_run (P := P) hm hy hsrc
    split at h
    · cases h
      obtain ⟨hv, rfl, rfl⟩ := hx
      obtain ⟨vs, hvs, hfc⟩ := hfirst 0 (Nat.zero_le _)
      have hmin : Nat.min k 0 = 0 := Nat.min_zero k
      rw [map2]
      refine (Runs.same hm (s := Builtin.copy_ #[t, u] type #[a.eval x, a.eval y]) (x := .int .i64 0) (v := .int .i64 0) ?_ rfl).does
      simp [Builtin.copy_, run_underlying hu, hv, hlen, hmin, run_size hn, hfc, goInt]
    · rename_i ad
      split at h
      · rename_i h0
        cases h
        obtain ⟨a', cap', hv, hc', hl', ha'⟩ := hx
        obtain ⟨vs, hvs, hfc⟩ := hfirst 0 (Nat.zero_le _)
        simp only [Nat.zero_mul, List.take_zero, VsRel] at hvs
        subst hvs
        have hmin : Nat.min k len = 0 := h0
        rw [map2]
        refine (Runs.same hm (s := Builtin.copy_ #[t, u] type #[a.eval x, a.eval y]) (x := .int .i64 0) (v := .int .i64 0) ?_ rfl).does
        simp [Builtin.copy_, run_underlying hu, hv, hlen, hmin, run_size hn, hfc, goInt, storeCells]
      · rename_i h0
        obtain ⟨m', hm', rfl⟩ := opt_some h
        rw [map2]
        exact (run_copy (u := u) (ty := type) hm hu hn hx hy hsrc hm' h0).does
  · rename_i t x
    split at hc
    case h_2 => cases hc
    rename_i e hu
    split at hc
    case h_2 => cases hc
    rename_i n z x' hn hz hx'
    split at hc
    · cases hc
    rename_i hn0
    obtain ⟨zs, hzs, rfl⟩ := Option.map_eq_some_iff.1 hc
    have hx := opdC_rel hf hx'
    simp only [evVal] at h
    split at h
    · rename_i hs
      rw [hs] at hx
      cases h
      obtain ⟨hv, rfl, rfl⟩ := hx
      rw [map1]
      refine (Runs.same hm (s := Builtin.clear_ #[t] type #[a.eval x]) (x := .tuple []) (v := .tuple #[]) ?_ ⟨#[], rfl, rfl⟩).does
      simp [Builtin.clear_, run_underlying hu, hv]
    · rename_i ad len cap ez hs
      rw [hs] at hx
      split at h
      · rename_i h0
        cases h
        subst h0
        obtain ⟨a', cap', hv, hc', hl', ha'⟩ := hx
        rw [map1]
        refine (Runs.same hm (s := Builtin.clear_ #[t] type #[a.eval x]) (x := .tuple []) (v := .tuple #[]) ?_ ⟨#[], rfl, rfl⟩).does
        simp [Builtin.clear_, run_underlying hu, hv]
      · rename_i h0
        obtain ⟨m', hm', rfl⟩ := opt_some h
        rw [map1]
        exact (run_clear (ty := type) hm hu hn0 hz hzs hx hm' h0).does
    · cases h
  · rename_i x y
    split at hc
    case h_2 => cases hc
    rename_i x' y' hx' hy'
    cases hc
    have hx := opdC_rel hf hx'
    have hy := opdC_rel hf hy'
    simp only [evVal] at h
    split at h
    case h_2 => cases h
    rename_i k n k' n' h1 h2
    split at h
    case isFalse => cases h
    rename_i hk
    subst hk
    cases h
    rw [h1] at hx
    rw [h2] at hy
    have e1 : a.eval x = .int k n := hx
    have e2 : a.eval y = .int k n' := hy
    rw [map2, e1, e2]
    exact (run_max (P := P) (ty := type) (k := k) (x := n) (y := n') hm).does
  · rename_i x y
    split at hc
    case h_2 => cases hc
    rename_i x' y' hx' hy'
    cases hc
    have hx := opdC_rel hf hx'
    have hy := opdC_rel hf hy'
    simp only [evVal] at h
    split at h
    case h_2 => cases h
    rename_i k n k' n' h1 h2
    split at h
    case isFalse => cases h
    rename_i hk
    subst hk
    cases h
    rw [h1] at hx
    rw [h2] at hy
    have e1 : a.eval x = .int k n := hx
    have e2 : a.eval y = .int k n' := hy
    rw [map2, e1, e2]
    exact (run_min (P := P) (ty := type) (k := k) (x := n) (y := n') hm).does
  · obtain ⟨y, hy, rfl⟩ := Option.map_eq_some_iff.1 hc
    have hx := opdC_rel hf hy
    simp only [evVal] at h
    rw [map1]
    split at h
    · rename_i n c z he
      cases h
      rw [he] at hx
      exact (run_sliceData hm _ type (fun e => by cases e) hx).does
    · rename_i ad n c z he
      split at h
      case isFalse => cases h
      rename_i hc0
      cases h
      rw [he] at hx
      exact (run_sliceData hm _ type (fun _ => hc0) hx).does
    · cases h
  · rename_i pt it x n
    split at hc
    case h_2 => cases hc
    rename_i u x' n' hpt hx' hn'
    split at hc
    case h_2 => cases hc
    rename_i hu
    split at hc
    case isFalse => cases hc
    rename_i hcond
    cases hc
    have hx := opdC_rel hf hx'
    have hy := opdC_rel hf hn'
    rw [map2]
    simp only [evVal] at h
    split at h
    · rename_i k e1 e2
      split at h
      case isFalse => cases h
      rename_i hk
      subst hk
      cases h
      rw [e1] at hx
      rw [e2] at hy
      have e3 : a.eval n = .int .i64 0 := hy
      rw [e3]
      exact (run_unsafeStr_none hm pt it type hx).does
    · rename_i ad k e1 e2
      rw [e1] at hx
      rw [e2] at hy
      have e3 : a.eval n = .int .i64 k := hy
      rw [e3]
      split at h
      · rename_i hk
        subst hk
        cases h
        obtain ⟨a', e4, h4⟩ := hx
        rw [e4]
        exact (Runs.same hm (x := .str []) (v := .string ⟨#[]⟩) (Lib.run_unsafeString_none w pt it type (some a')) rfl).does
      · rename_i hk
        split at h
        · cases h
        rename_i hneg
        split at h
        case h_2 => cases h
        rename_i b gen hbase
        split at h
        case h_2 => cases h
        rename_i cs gen' hb
        split at h
        case isFalse => cases h
        rename_i hcc
        obtain ⟨rfl, hq2, hk2, hoff⟩ := hcc
        obtain ⟨s, hs, rfl⟩ := opt_some h
        obtain ⟨ds, hds, hstr⟩ := Option.bind_eq_some_iff.1 hs
        obtain ⟨kn, rfl⟩ : ∃ kn : Nat, k = (kn : Int) := ⟨k.toNat, by omega⟩
        have hkn : kn ≠ 0 := by omega
        rw [Int.toNat_natCast] at hds
        have had : ad = ⟨.mem b gen', 0⟩ := by
          obtain ⟨bs, of⟩ := ad
          simp only at hbase hoff
          rw [hbase, hoff]
        subst had
        have h63 : kn ≤ 9223372036854775807 := by omega
        have htag : tagC P u = typeK * (1 + u) + 1 := by simp only [tagC, hu]
        exact (run_unsafeStr hm pt it type hpt hcond.1 htag hkn h63 hb hq2 hk2 hds hstr hx _).does
    · cases h
  · rename_i t kt2 x k
    split at hc
    case h_2 => cases hc
    rename_i kt et hu
    split at hc
    case h_2 => cases hc
    rename_i q x' k' hk hx' hk'
    cases hc
    have hx := opdC_rel hf hx'
    have hy := opdC_rel hf hk'
    rw [map2]
    simp only [evVal] at h
    split at h
    · rename_i he
      obtain ⟨f, hf', rfl⟩ := opt_some h
      rw [he] at hx
      have e1 : a.eval x = .map none := hx
      rw [e1]
      exact (Runs.same hm (s := Builtin.delete_ #[t, kt2] type #[.map none, a.eval k]) (x := undefE) (v := undef) (run_mapDelNil (ty := type) (kt2 := kt2) hm hu hk hy (look_spec hf').1) (undef_rel _ _)).does
    · rename_i r0 he
      rw [he] at hx
      split at h
      case h_2 => cases h
      rename_i es ck hb
      obtain ⟨f, hf', rfl⟩ := opt_some h
      obtain ⟨w', hrun, m', hm', hext, hmem⟩ := run_mapDel (ty := type) (kt2 := kt2) hm hu hk hy hx hb hf' (min m.low r0)
      have : Runs P G base w0 j m w (Builtin.delete_ #[t, kt2] type #[a.eval x, a.eval k]) (undefE, m') := ⟨j, _, w', hrun, hext, hmem, undef_rel _ _⟩
      rw [hm'] at this
      exact this.does
    · cases h
  · obtain ⟨y, hy, rfl⟩ := Option.map_eq_some_iff.1 hc
    simp [EOp.quiet] at hq
  · cases hc
    simp [EOp.quiet] at hq
  · cases hc

theorem set_run (hm : MemRel G base w0 j m w) (hf : FRel j m nt A a.tmps) {dst : Option Tmp} {op : Op} {type : TypeId} {pos : String} {after : Array Edge} {guard : Option (Nat × Bool)} {e : EOp} (hop : (∃ t x k y, op = .mapUpdate t x k y) ∨ ∃ t x k y, op = .insert t x k y) (hc : opC P op = some e) {r : EV × Mem} (h : evVal G e A m = some r) :
    Does P G base w0 j m w (execOp a.eval ⟨dst, op, type, pos, after, guard⟩) r := by
  obtain ⟨t, x, k, y, hrun, hc⟩ : ∃ t x k y, (execOp a.eval ⟨dst, op, type, pos, after, guard⟩) = (do Instr.mapUpdate t (a.eval x) (a.eval k) (a.eval y); pure .skip : Sem Next) ∧ opC P (.mapUpdate t x k y) = some e := by
    rcases hop with ⟨t, x, k, y, rfl⟩ | ⟨t, x, k, y, rfl⟩
    · exact ⟨t, x, k, y, rfl, hc⟩
    · exact ⟨t, x, k, y, rfl, hc⟩
  rw [hrun]
  simp only [opC] at hc
  split at hc
  case h_2 => cases hc
  rename_i kt et hu
  split at hc
  case h_2 => cases hc
  rename_i q x' k' y' hk hx' hk' hy'
  cases hc
  have hx := opdC_rel hf hx'
  have hkk := opdC_rel hf hk'
  have hy := opdC_rel hf hy'
  simp only [evVal] at h
  split at h
  case h_2 => cases h
  rename_i r0 he
  rw [he] at hx
  split at h
  case h_2 => cases h
  rename_i es ck hb
  split at h
  case isFalse => cases h
  obtain ⟨f, hf', rfl⟩ := opt_some h
  obtain ⟨w', h1, m', hm', hext, hmem⟩ := run_mapSet hm hu hk hkk hy hx hb hf' (min m.low r0)
  rw [hm'] at hext hmem
  exact ⟨j, undef, w', .inr ⟨by simp [h1], rfl⟩, hext, hmem, undef_rel _ _⟩

theorem quiet_run (hm : MemRel G base w0 j m w) (hf : FRel j m nt A a.tmps) {o : Oper} {e : EOp} (hc : opC P o.op = some e) (hq : e.quiet = true) {r : EV × Mem} (h : evVal G e A m = some r) :
    Does P G base w0 j m w (execOp a.eval o) r := by
  obtain ⟨dst, op, type, pos, after, guard⟩ := o
  simp only at hc
  cases op with
  | move x =>
    simp only [opC] at hc
    obtain ⟨y, hy, rfl⟩ := Option.map_eq_some_iff.1 hc
    simp only [evVal] at h
    cases h
    exact ⟨j, a.eval x, w, .inl rfl, Ext.refl j m, hm, opdC_rel hf hy⟩
  | assign x =>
    simp only [opC] at hc
    obtain ⟨y, hy, rfl⟩ := Option.map_eq_some_iff.1 hc
    simp only [evVal] at h
    cases h
    exact ⟨j, a.eval x, w, .inl rfl, Ext.refl j m, hm, opdC_rel hf hy⟩
  | pick c x y =>
    simp only [opC] at hc
    split at hc
    case h_2 => cases hc
    rename_i c' x' y' hcc hxx hyy
    cases hc
    simp only [evVal] at h
    split at h
    case h_2 => cases h
    rename_i t ht
    cases h
    have hr := opdC_rel hf hcc
    rw [ht] at hr
    have hv : a.eval c = .bool t := hr
    refine ⟨j, if t then a.eval x else a.eval y, w, .inl ?_, Ext.refl j m, hm, ?_⟩
    · simp [execOp, hv, asBool]
    · cases t
      · exact opdC_rel hf hyy
      · exact opdC_rel hf hxx
  | alloc t =>
    simp only [opC] at hc
    split at hc
    case h_2 => cases hc
    rename_i z n hz hn
    obtain ⟨zs, hzs, rfl⟩ := Option.map_eq_some_iff.1 hc
    obtain ⟨rfl, _, ho⟩ := fixC_spec hzs
    split at h
    · simp only [evVal] at h
      cases h
      exact (run_newT (n := n) hm hz ho).does
    · simp only [evVal] at h
      cases h
      exact (run_alloc hm hz ho).does
  | box t x =>
    simp only [opC] at hc
    split at hc
    case h_2 => cases hc
    rename_i y n hy hn
    cases hc
    simp only [evVal] at h
    split at h
    case isFalse => cases h
    rename_i hcond
    cases h
    have hx := opdC_rel hf hy
    exact (run_box hm t hx (hx.single hcond.2)).does
  | build t ps =>
    simp only [opC] at hc
    split at hc
    · rename_i z fs hz hu
      obtain ⟨z0, hz0, hfix⟩ := Option.bind_eq_some_iff.1 hz
      split at hc
      case isFalse => cases hc
      rename_i hall
      obtain ⟨qs, hqs, rfl⟩ := Option.map_eq_some_iff.1 hc
      simp only [evVal] at h
      obtain ⟨r', hr', rfl⟩ := opt_some h
      have := run_buildStruct (z' := z0) hm hf hu hz0 hfix (fun f hf' => by
        have := Array.all_eq_true_iff_forall_mem.1 hall f (by simpa using hf')
        exact this) hqs hr'
      exact this.does
    · rename_i z n e hz hu
      obtain ⟨z0, hz0, hfix⟩ := Option.bind_eq_some_iff.1 hz
      obtain ⟨k, hk, hc⟩ := Option.bind_eq_some_iff.1 hc
      obtain ⟨qs, hqs, rfl⟩ := Option.map_eq_some_iff.1 hc
      simp only [evVal] at h
      obtain ⟨r', hr', rfl⟩ := opt_some h
      exact (run_buildArray hm hf hu hk hz0 hfix hqs hr').does
    · cases hc
  | buildSlice t len ps =>
    simp only [opC] at hc
    split at hc
    case h_2 => cases hc
    rename_i e hu
    split at hc
    case h_2 => cases hc
    rename_i z n hz hn
    split at hc
    case isFalse => cases hc
    rename_i hcond
    obtain ⟨zs, hzs, hc⟩ := Option.bind_eq_some_iff.1 hc
    obtain ⟨qs, hqs, rfl⟩ := Option.map_eq_some_iff.1 hc
    simp only [evVal] at h
    obtain ⟨r', hr', rfl⟩ := opt_some h
    exact (run_mklit hm hf hu hn hcond.2 hcond.1 hz hzs hqs hr').does
  | load t x =>
    simp only [opC] at hc
    split at hc
    case h_2 => cases hc
    rename_i n y hn hy
    cases hc
    have hx := opdC_rel hf hy
    simp only [evVal] at h
    split at h
    case h_2 => cases h
    rename_i ad had
    rw [had] at hx
    split at h
    · obtain ⟨v, hv, rfl⟩ := opt_some h
      exact (run_load1 hm hn hx hv).does
    · obtain ⟨v, hv, rfl⟩ := opt_some h
      exact (run_loadN hm hn hx hv).does
  | store t x y =>
    simp only [opC] at hc
    split at hc
    case h_2 => cases hc
    rename_i n x' y' hn hxx hyy
    cases hc
    have hx := opdC_rel hf hxx
    have hy := opdC_rel hf hyy
    simp only [evVal] at h
    split at h
    case h_2 => cases h
    rename_i ad had
    rw [had] at hx
    have fin : ∀ {m' : Mem}, (opd A y').cells.length = n → Ev.single (opd A y') = true → m.putN ad (opd A y').cells = some m' → r = (undefE, m') → Does P G base w0 j m w (execOp a.eval ⟨dst, .store t x y, type, pos, after, guard⟩) r := by
      intro m' h1 h2 h3 h4
      subst h4
      obtain ⟨j', w', hr, h5, h6⟩ := run_storeAt hm hn hx hy h1 (hy.single h2) h3
      exact ⟨j', undef, w', .inr ⟨by simp [execOp, hr], rfl⟩, h5, h6, undef_rel _ _⟩
    split at h
    · rename_i cs hcs
      split at h
      · rename_i hl
        obtain ⟨m', hm', rfl⟩ := opt_some h
        exact fin (by rw [hcs]; exact hl) (by rw [hcs]; rfl) (by rw [hcs]; exact hm') rfl
      · cases h
    · cases h
    · cases h
    · rename_i v hna hnt hni
      split at h
      · rename_i h1
        obtain ⟨m', hm', rfl⟩ := opt_some h
        have hcell : (opd A y').cells = [opd A y'] := by
          cases hv : opd A y' with
          | agg cs => exact absurd hv (hna cs)
          | _ => rfl
        refine fin (by rw [hcell, h1]; rfl) ?_ (by rw [hcell, ← put1_eq]; exact hm') rfl
        cases hv : opd A y' with
        | tuple vs => exact absurd hv (hnt vs)
        | iter b => exact absurd hv (hni b)
        | _ => rfl
      · cases h
  | nilCheck x =>
    simp only [opC] at hc
    obtain ⟨y, hy, rfl⟩ := Option.map_eq_some_iff.1 hc
    have hx := opdC_rel hf hy
    simp only [evVal] at h
    split at h
    · rename_i ad had
      rw [had] at hx
      cases h
      obtain ⟨a', hv, hr⟩ := hx
      exact ⟨j, _, w, .inl (by simp only [execOp, hv]; rfl), Ext.refl j m, hm, a', rfl, hr⟩
    · rename_i f c hfc
      rw [hfc] at hx
      cases h
      obtain ⟨c', hv, hr⟩ := hx
      exact ⟨j, _, w, .inl (by simp only [execOp, hv]; rfl), Ext.refl j m, hm, c', rfl, hr⟩
    · cases h
  | binOp op t x y yt =>
    simp only [opC] at hc
    split at hc
    · rename_i hnil
      simp only [Bool.and_eq_true, bne_iff_ne, ne_eq, beq_iff_eq] at hnil
      obtain ⟨⟨h0, hk⟩, hop⟩ := hnil
      obtain ⟨x', hx', rfl⟩ := Option.map_eq_some_iff.1 hc
      have hx := opdC_rel hf hx'
      simp only [evVal] at h
      obtain ⟨b, hb, rfl⟩ := opt_some h
      cases y with
      | const c =>
        have := isNil_run (P := P) hk h0 hb hx hop x w
        refine ⟨j, _, w, .inl ?_, Ext.refl j m, hm, rfl⟩
        simp only [execOp]
        simp only [Act.eval, Sem.run_bind] at this ⊢
        simp only [this, Result.andThen_ok, Sem.run_pure]
      | _ => simp [nilK] at h0
    · split at hc
      case h_2 => cases hc
      rename_i x' y' hx' hy'
      have hx := opdC_rel hf hx'
      have hy := opdC_rel hf hy'
      split at hc
      · rename_i u hu
        split at hc
        case isFalse => cases hc
        rename_i hcond
        obtain ⟨hop, _, hsome⟩ := hcond
        obtain ⟨n, hn⟩ := Option.isSome_iff_exists.1 hsome
        cases hc
        have fin : ∀ (p q : Option Addr) (b : Bool), a.eval x = .pointer p → a.eval y = .pointer q → (p = none ∨ q = none ∨ p = q) → b = (if isNeq op then !decide (p = q) else decide (p = q)) → r = (.bool b, m) → Does P G base w0 j m w (execOp a.eval ⟨dst, .binOp op t x y yt, type, pos, after, guard⟩) r := by
          intro p q b e1 e2 h3 h4 h5
          subst h5
          subst h4
          have := run_ptrEq hu hn hop x y w p q h3
          refine (Runs.same hm (s := (do eqGuard op t x y (a.eval x) (a.eval y); binOp op t (a.eval x) (a.eval y))) (x := .bool (if isNeq op then !decide (p = q) else decide (p = q))) (v := .bool (if isNeq op then !decide (p = q) else decide (p = q))) ?_ rfl).does
          rw [e1, e2]
          exact this
        simp only [evVal] at h
        split at h
        · rename_i qb h1 h2
          cases h
          rw [h1] at hx
          rw [h2] at hy
          have e1 : a.eval x = .pointer none := hx
          cases qb with
          | none =>
            have e2 : a.eval y = .pointer none := hy
            exact fin none none _ e1 e2 (.inl rfl) (by cases isNeq op <;> rfl) rfl
          | some ad =>
            obtain ⟨a', e2, _⟩ := hy
            exact fin none (some a') _ e1 e2 (.inl rfl) (by cases isNeq op <;> rfl) rfl
        · rename_i ad h1 h2
          cases h
          rw [h1] at hx
          rw [h2] at hy
          have e2 : a.eval y = .pointer none := hy
          obtain ⟨a', e1, _⟩ := hx
          exact fin (some a') none _ e1 e2 (.inr (.inl rfl)) (by cases isNeq op <;> rfl) rfl
        · rename_i b1 g1 o1 b2 g2 o2 h1 h2
          split at h
          case h_2 => cases h
          rename_i cs g rw' hb
          split at h
          case isFalse => cases h
          rename_i hcc
          obtain ⟨rfl, rfl, rfl, rfl⟩ := hcc
          cases h
          rw [h1] at hx
          rw [h2] at hy
          obtain ⟨a1, e1, r1⟩ := hx
          obtain ⟨a2, e2, r2⟩ := hy
          have q1 := r1.2.2 ⟨cs, rw', hb⟩
          have q2 := r2.2.2 ⟨cs, rw', hb⟩
          refine fin (some a1) (some a2) _ e1 e2 (.inr (.inr (by rw [q1, q2]))) ?_ rfl
          have : (some a1 = some a2) = True := by rw [q1, q2]; simp
          simp only [this]
          cases isNeq op <;> rfl
        · cases h
      · cases hc
        simp only [evVal] at h
        obtain ⟨v, hv, rfl⟩ := opt_some h
        exact (bin_run hm op t x y hv hx hy).does
  | unOp op t x =>
    simp only [opC] at hc
    obtain ⟨y, hy, rfl⟩ := Option.map_eq_some_iff.1 hc
    simp only [evVal] at h
    obtain ⟨v, hv, rfl⟩ := opt_some h
    obtain ⟨u, hu, hr⟩ := unE_run (P := P) hv (opdC_rel hf hy) w
    exact (Runs.same hm hu hr).does
  | convert src dst x =>
    simp only [opC] at hc
    split at hc
    · rename_i t y hs hd hy
      split at hc
      case isFalse => cases hc
      rename_i hcond
      obtain ⟨hn0, hsome⟩ := hcond
      obtain ⟨n, hn⟩ := Option.isSome_iff_exists.1 hsome
      cases hc
      have hx := opdC_rel hf hy
      simp only [evVal] at h
      split at h
      · rename_i he
        cases h
        rw [he] at hx
        exact (run_unsafe_nil hm (.inl ⟨t, hs, hd⟩) hx).does
      · rename_i b gen he
        rw [he] at hx
        split at h
        case h_2 => cases h
        rename_i cs g rw' hb
        split at h
        case isFalse => cases h
        rename_i hcc
        obtain ⟨rfl, hne⟩ := hcc
        cases h
        exact (run_unsafeTo hm hs hd hn (by intro e; subst e; exact hn0 hn) hb hne hx).does
      · cases h
    · rename_i u y hs hd hy
      split at hc
      case h_2 => cases hc
      rename_i n hn
      split at hc
      case isFalse => cases hc
      rename_i hcond
      obtain ⟨hn0, _, hlies⟩ := hcond
      cases hc
      have hx := opdC_rel hf hy
      simp only [evVal] at h
      split at h
      · rename_i he
        cases h
        rw [he] at hx
        exact (run_unsafe_nil hm (.inr ⟨u, hs, hd⟩) hx).does
      · rename_i b gen he
        rw [he] at hx
        split at h
        case h_2 => cases h
        rename_i cs g rw' hb
        split at h
        case isFalse => cases h
        rename_i hcc
        obtain ⟨rfl, hg, hl⟩ := hcc
        cases h
        exact (run_unsafeFrom hm hs hd hn hlies hb hg hl hx).does
      · cases h
    · rename_i k k' y hs hd hy
      cases hc
      have hx := opdC_rel hf hy
      simp only [evVal] at h
      split at h
      case h_2 => cases h
      rename_i k0 n he
      cases h
      rw [he] at hx
      exact (run_toInt hm (by rw [hs]; rfl) hd hx).does
    · rename_i k' k y hs hd hy
      cases hc
      have hx := opdC_rel hf hy
      simp only [evVal] at h
      split at h
      case h_2 => cases h
      rename_i k0 n he
      cases h
      rw [he] at hx
      exact (run_toFlt hm ⟨_, hs⟩ hd hx).does
    · rename_i k' k y hs hd hy
      cases hc
      have hx := opdC_rel hf hy
      simp only [evVal] at h
      split at h
      case h_2 => cases h
      rename_i k0 n he
      split at h
      case h_2 => cases h
      rename_i n2 hn2
      split at h
      case isFalse => cases h
      rename_i hr
      cases h
      rw [he] at hx
      exact (run_fltInt hm ⟨_, hs⟩ hd hx hn2 hr).does
    · rename_i y hs hd hy
      cases hc
      have hx := opdC_rel hf hy
      simp only [evVal] at h
      split at h
      case h_2 => cases h
      rename_i s he
      cases h
      rw [he] at hx
      exact (run_sameStr hm hs hd hx).does
    · rename_i e y hs hd hy
      split at hc
      case h_2 => cases hc
      rename_i he
      split at hc
      case isFalse => cases hc
      cases hc
      have hx := opdC_rel hf hy
      simp only [evVal] at h
      split at h
      case h_2 => cases h
      rename_i s hse
      cases h
      rw [hse] at hx
      exact (run_toBytes hm hs hd he hx).does
    · rename_i e y hs hd hy
      split at hc
      case h_2 => cases hc
      rename_i he
      cases hc
      have hx := opdC_rel hf hy
      simp only [evVal] at h
      split at h
      · rename_i n1 n2 n3 hse
        cases h
        rw [hse] at hx
        exact (run_toStr_nil hm hs hd he hx).does
      · rename_i ad n n2 n3 hse
        obtain ⟨s, hs', rfl⟩ := opt_some h
        obtain ⟨cs, hcs, hstr⟩ := Option.bind_eq_some_iff.1 hs'
        rw [hse] at hx
        exact (run_toStr hm hs hd he hx hcs hstr).does
      · cases h
    · rename_i e e2 y hs hd hy
      split at hc
      case h_2 => cases hc
      rename_i he
      split at hc
      case isFalse => cases hc
      rename_i hsd
      subst hsd
      cases hc
      have hx := opdC_rel hf hy
      simp only [evVal] at h
      split at h
      case h_2 => cases h
      rename_i b gen o n c z hse
      split at h
      case h_2 => cases h
      rename_i cs gen' hb
      split at h
      case isFalse => cases h
      rename_i hcc
      obtain ⟨rfl, hc0⟩ := hcc
      cases h
      rw [hse] at hx
      exact (run_markRow hm hs he hb hc0 hx).does
    · cases hc
  | makeInterface t x =>
    simp only [opC] at hc
    split at hc
    · cases hc
    · cases hc
    · rename_i d hni hu
      obtain ⟨y, hy, rfl⟩ := Option.map_eq_some_iff.1 hc
      simp only [evVal] at h
      cases h
      exact (run_mkIface hm hu (fun ms e => hni ms (by rw [e])) (opdC_rel hf hy)).does
  | makeFunc fn first captured =>
    cases fn <;> simp only [opC] at hc <;> first | (cases hc; done) | skip
    rename_i f
    split at hc
    case isFalse => cases hc
    rename_i hfirst
    obtain ⟨ys, hys, rfl⟩ := Option.map_eq_some_iff.1 hc
    simp only [evVal] at h
    cases h
    have hr := opdsC_rel hf hys
    have h0 : first = #[] := Array.eq_empty_of_size_eq_zero hfirst
    subst h0
    refine ⟨j, .func (.func f) #[] (captured.map a.eval), w, .inl (by simp [execOp, Instr.makeFunc]), Ext.refl j m, hm, _, rfl, by simpa using hr⟩
  | makeMap t res =>
    cases res with
    | none =>
      simp only [opC] at hc
      cases hc
      simp only [evVal] at h
      cases h
      exact (run_mkMap hm t).does
    | some x =>
      simp only [opC] at hc
      split at hc
      case h_2 => cases hc
      rename_i kt et hu
      obtain ⟨y, hy, rfl⟩ := Option.map_eq_some_iff.1 hc
      have hx := opdC_rel hf hy
      simp only [evVal] at h
      split at h
      case h_2 => cases h
      rename_i k n he
      cases h
      rw [he] at hx
      exact (run_mkMapN hm hu hx).does
  | makeSlice t l c =>
    simp only [opC] at hc
    split at hc
    case h_2 => cases hc
    rename_i e hu
    split at hc
    case h_2 => cases hc
    rename_i i z l' c' hi hz hl hcc
    split at hc
    case isFalse => cases hc
    rename_i hcond
    obtain ⟨zs, hzs, rfl⟩ := Option.map_eq_some_iff.1 hc
    simp only [evVal] at h
    split at h
    case h_2 => cases h
    rename_i ln cn hle hce
    split at h
    case isFalse => cases h
    rename_i hb
    cases h
    have h1 := opdC_rel hf hl
    have h2 := opdC_rel hf hcc
    rw [hle] at h1
    rw [hce] at h2
    have e1 : a.eval l = .int .i64 ln := h1
    have e2 : a.eval c = .int .i64 cn := h2
    have := run_mkSlice (P := P) hm hu hi hcond.1 hcond.2 hz hzs hb.1 hb.2.1 hb.2.2
    rw [← e1, ← e2] at this
    exact this.does
  | slice t x lo hi mx =>
    cases mx with
    | some _ => simp only [opC] at hc; cases hc
    | none =>
      simp only [opC] at hc
      split at hc
      · rename_i x' lo' hi' hu hx' hlo hhi
        cases hc
        have hx := opdC_rel hf hx'
        simp only [evVal] at h
        split at h
        case h_2 => cases h
        rename_i s hs
        rw [hs] at hx
        split at h
        case h_2 => cases h
        rename_i hq hbh
        split at h
        case h_2 => cases h
        rename_i lq hbl
        split at h
        case isFalse => cases h
        rename_i hc2
        cases h
        exact (run_slStr hm hf hu hx hlo hhi hbh hbl hc2.1 hc2.2).does
      · rename_i e x' lo' hi' hu hx' hlo hhi
        obtain ⟨n, hn, hc⟩ := Option.bind_eq_some_iff.1 hc
        split at hc
        · cases hc
        cases hc
        have hx := opdC_rel hf hx'
        simp only [evVal] at h
        split at h
        · rename_i sa len cap ez hs
          rw [hs] at hx
          split at h
          case h_2 => cases h
          rename_i hq hbh
          split at h
          case h_2 => cases h
          rename_i lq hbl
          split at h
          case isFalse => cases h
          rename_i hc2
          cases h
          cases sa with
          | none => exact (run_slNil hm hf hu hn hx hlo hhi hbh hbl hc2.1 hc2.2.1).does
          | some sa =>
            have e1 : ez = n := hc2.2.2.resolve_right (by simp)
            subst e1
            exact (run_slSlice hm hf hu hn hx hlo hhi hbh hbl hc2.1 hc2.2.1).does
        · cases h
      · rename_i k e x' lo' hi' hu hx' hlo hhi
        obtain ⟨n, hn, hc⟩ := Option.bind_eq_some_iff.1 hc
        split at hc
        · cases hc
        cases hc
        have hx := opdC_rel hf hx'
        simp only [evVal] at h
        split at h
        case h_2 => cases h
        rename_i ad had
        rw [had] at hx
        split at h
        case h_2 => cases h
        rename_i hq hbh
        split at h
        case h_2 => cases h
        rename_i lq hbl
        split at h
        case h_2 => cases h
        rename_i cs hcs
        split at h
        case isFalse => cases h
        rename_i hc2
        cases h
        exact (run_slArr hm hf hu hn hx hcs hc2.2.2 hlo hhi hbh hbl hc2.1 hc2.2.1).does
      · cases hc
  | fieldAddr s x f =>
    simp only [opC] at hc
    split at hc
    case h_2 => cases hc
    rename_i fs y hu hy
    obtain ⟨g, hg, hc⟩ := Option.bind_eq_some_iff.1 hc
    obtain ⟨n, hn, hc⟩ := Option.bind_eq_some_iff.1 hc
    split at hc
    · cases hc
    rename_i hn0
    cases hc
    have hx := opdC_rel hf hy
    simp only [evVal] at h
    split at h
    case h_2 => cases h
    rename_i ad had
    rw [had] at hx
    cases h
    exact (run_fieldAt hm hu hg hn hn0 hx).does
  | field s x f =>
    simp only [opC] at hc
    split at hc
    case h_2 => cases hc
    rename_i fs y hu hy
    obtain ⟨g, hg, hc⟩ := Option.bind_eq_some_iff.1 hc
    obtain ⟨n, hn, rfl⟩ := Option.map_eq_some_iff.1 hc
    have hx := opdC_rel hf hy
    simp only [evVal] at h
    split at h
    case h_2 => cases h
    rename_i cs hcs
    rw [hcs] at hx
    obtain ⟨v, hv, rfl⟩ := opt_some h
    exact (run_field hm hu hg hn hx hv).does
  | indexAddr t x i =>
    simp only [opC] at hc
    split at hc
    · rename_i len e x' i' hu hx' hi'
      obtain ⟨n, hn, rfl⟩ := Option.map_eq_some_iff.1 hc
      have hx := opdC_rel hf hx'
      have hi := opdC_rel hf hi'
      simp only [evVal] at h
      split at h
      case h_2 => cases h
      rename_i ad k iv had hik
      rw [had] at hx
      rw [hik] at hi
      split at h
      case isFalse => cases h
      rename_i hb
      cases h
      have e1 : a.eval i = .int k iv := hi
      have := run_ixAddrArr (P := P) (k := k) hm hu hn hx hb.1 hb.2
      rw [← e1] at this
      exact this.does
    · rename_i e x' i' hu hx' hi'
      obtain ⟨n, hn, rfl⟩ := Option.map_eq_some_iff.1 hc
      have hx := opdC_rel hf hx'
      have hi := opdC_rel hf hi'
      simp only [evVal] at h
      split at h
      case h_2 => cases h
      rename_i ad len cap ez k iv had hik
      rw [had] at hx
      rw [hik] at hi
      split at h
      case isFalse => cases h
      rename_i hb
      cases h
      have e1 : a.eval i = .int k iv := hi
      have := run_ixAddr (P := P) (k := k) hm hu hn hx hb.1 hb.2
      rw [← e1] at this
      exact this.does
    · cases hc
  | index t x i =>
    simp only [opC] at hc
    split at hc
    · rename_i len e x' i' hu hx' hi'
      obtain ⟨n, hn, hc⟩ := Option.bind_eq_some_iff.1 hc
      obtain ⟨q, hqq, rfl⟩ := Option.map_eq_some_iff.1 hc
      have hx := opdC_rel hf hx'
      have hi := opdC_rel hf hi'
      simp only [evVal] at h
      split at h
      case h_2 => cases h
      rename_i cs k iv had hik
      rw [had] at hx
      rw [hik] at hi
      split at h
      case isFalse => cases h
      rename_i hb
      obtain ⟨v, hv, rfl⟩ := opt_some h
      have e1 : a.eval i = .int k iv := hi
      have := run_ixArr (P := P) (k := k) hm hu hn hqq hx hb.1 hb.2 hv
      rw [← e1] at this
      exact this.does
    · rename_i x' i' hu hx' hi'
      cases hc
      have hx := opdC_rel hf hx'
      have hi := opdC_rel hf hi'
      simp only [evVal] at h
      split at h
      case h_2 => cases h
      rename_i s k iv had hik
      rw [had] at hx
      rw [hik] at hi
      split at h
      case isFalse => cases h
      rename_i hb
      obtain ⟨v, hv, rfl⟩ := opt_some h
      have e1 : a.eval i = .int k iv := hi
      have := run_ixStr (P := P) (k := k) hm hu hx hb hv
      rw [← e1] at this
      exact this.does
    · cases hc
  | typeAssert x xt t ok =>
    simp only [opC] at hc
    split at hc
    · cases hc
    · rename_i d z y hni hu hz hy
      cases hc
      have hx := opdC_rel hf hy
      have hd : ∀ ms, d ≠ .interface ms := fun ms e => hni ms (by rw [e])
      simp only [evVal] at h
      split at h
      · rename_i u v huv
        rw [huv] at hx
        obtain ⟨v', hv', hr⟩ : ∃ v', (if u = t then some (if ok then EV.tuple [v, .bool true] else v) else if ok then some (.tuple [z, .bool false]) else none) = some v' ∧ r = (v', m) := by
          split at h
          · rename_i e; cases h; exact ⟨_, by rw [if_pos e], rfl⟩
          · rename_i e
            split at h
            · rename_i e2; cases h; exact ⟨_, by rw [if_neg e, if_pos e2], rfl⟩
            · cases h
        subst hr
        exact (run_assertIface hm hu hd hz hx hv').does
      · rename_i hnl
        split at h
        · rename_i hok
          cases h
          subst hok
          rw [hnl] at hx
          have e1 : a.eval x = .nilIface := hx
          have := run_assertNil (P := P) (xt := xt) hm hu hd hz
          rw [← e1] at this
          exact this.does
        · cases h
      · cases h
    · cases hc
  | extract x i =>
    simp only [opC] at hc
    obtain ⟨y, hy, rfl⟩ := Option.map_eq_some_iff.1 hc
    have hx := opdC_rel hf hy
    simp only [evVal] at h
    split at h
    case h_2 => cases h
    rename_i vs hvs
    rw [hvs] at hx
    obtain ⟨v, hv, rfl⟩ := opt_some h
    exact (run_extract hm hx hv).does
  | call c =>
    simp only [opC, callC] at hc
    split at hc
    · rename_i b hb
      have := quiet_builtin hm hf hc hq h type (c.args.map fun | .const _ => true | _ => false)
      simp only [execOp, resolve, hb]
      exact this
    · rename_i f hfc
      split at hc
      · cases hc; simp [EOp.quiet] at hq
      · cases hc
    · cases hc
  | defer c =>
    simp only [opC] at hc
    split at hc
    · split at hc
      · cases hc; simp [EOp.quiet] at hq
      · cases hc
    · cases hc
  | panic x =>
    simp only [opC] at hc
    obtain ⟨y, hy, rfl⟩ := Option.map_eq_some_iff.1 hc
    simp [EOp.quiet] at hq
  | lookup t x k ok =>
    simp only [opC] at hc
    split at hc
    case h_2 => cases hc
    rename_i kt et hu
    split at hc
    case h_2 => cases hc
    rename_i q z x' k' hk hz hx' hk'
    cases hc
    have hx := opdC_rel hf hx'
    have hy := opdC_rel hf hk'
    simp only [evVal] at h
    split at h
    · rename_i he
      obtain ⟨f, hf', rfl⟩ := opt_some h
      rw [he] at hx
      exact (run_lookup hm hu hk hz hy (ref := none) hx (es := []) rfl hf' ok).does
    · rename_i r0 he
      rw [he] at hx
      split at h
      case h_2 => cases h
      rename_i es ck hb
      obtain ⟨f, hf', rfl⟩ := opt_some h
      exact (run_lookup hm hu hk hz hy (ref := some r0) hx (es := es) ⟨ck, hb⟩ hf' ok).does
    · cases h
  | range t x =>
    simp only [opC] at hc
    split at hc
    case h_2 => cases hc
    rename_i hu
    obtain ⟨y, hy, rfl⟩ := Option.map_eq_some_iff.1 hc
    have hx := opdC_rel hf hy
    simp only [evVal] at h
    split at h
    case h_2 => cases h
    rename_i s he
    cases h
    rw [he] at hx
    exact (run_range hm hu hx).does
  | next x st =>
    cases st
    · simp only [opC] at hc
      cases hc
    simp only [opC] at hc
    obtain ⟨y, hy, rfl⟩ := Option.map_eq_some_iff.1 hc
    have hx := opdC_rel hf hy
    simp only [evVal] at h
    split at h
    case h_2 => cases h
    rename_i b he
    rw [he] at hx
    split at h
    case h_2 => cases h
    rename_i s p hb
    have := run_next (P := P) hm type hx hb (min m.low b)
    split at h
    · rename_i hp
      cases h
      rw [if_pos hp] at this
      exact this.does
    · rename_i hp
      cases h
      rw [if_neg hp] at this
      exact this.does
  | mapUpdate t x k y => exact set_run hm hf (.inl ⟨t, x, k, y, rfl⟩) hc h
  | insert t x k y => exact set_run hm hf (.inr ⟨t, x, k, y, rfl⟩) hc h
  | _ => simp only [opC] at hc; cases hc
end
end Go.Ev
