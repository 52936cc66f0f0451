/- The engine, part 15: functions without a Go body. There are no conditions. -/
import Derived.Test.YthmmoahdobpfoaaGreatDoorXEv14
import Derived.Test.YthmmoahdobpfoaaGreatDoorXEv6
import Derived.Lib.IndexEntry
import Derived.Lib.BytesEntry
set_option linter.unusedSectionVars false
set_option linter.unusedVariables false
set_option linter.unusedSimpArgs false
namespace Go.Ev
open Go.RowKit (Below)

theorem nextRow_none : Extern.allNextRows.lookup "" = none := by kernel_rfl
theorem nextRow_ibs : Extern.allNextRows.lookup "internal/bytealg.IndexByteString" = none := by kernel_rfl
theorem nextRow_noe : Extern.allNextRows.lookup "internal/abi.NoEscape" = none := by kernel_rfl
theorem genRow_ibs : Extern.allGenericRows.lookup "internal/bytealg.IndexByteString" = none := by kernel_rfl
theorem genRow_noe : Extern.allGenericRows.lookup "internal/abi.NoEscape" = none := by kernel_rfl
theorem typRow_ibs : Extern.allTypedRows.lookup "internal/bytealg.IndexByteString" = none := by kernel_rfl
theorem typRow_noe : Extern.allTypedRows.lookup "internal/abi.NoEscape" = none := by kernel_rfl
theorem row_ibs : Extern.allRows.lookup "internal/bytealg.IndexByteString" = some Extern.BytealgIndexByte.indexByte := by kernel_rfl
theorem nextRow_ffb : Extern.allNextRows.lookup "math.Float64frombits" = none := by kernel_rfl
theorem genRow_ffb : Extern.allGenericRows.lookup "math.Float64frombits" = none := by kernel_rfl
theorem typRow_ffb : Extern.allTypedRows.lookup "math.Float64frombits" = none := by kernel_rfl
theorem row_ffb : Extern.allRows.lookup "math.Float64frombits" = some Extern.MathFloatBits.float64frombits := by kernel_rfl
theorem nextRow_cnt : Extern.allNextRows.lookup "internal/bytealg.CountString" = none := by kernel_rfl
theorem genRow_cnt : Extern.allGenericRows.lookup "internal/bytealg.CountString" = none := by kernel_rfl
theorem typRow_cnt : Extern.allTypedRows.lookup "internal/bytealg.CountString" = none := by kernel_rfl
theorem row_cnt : Extern.allRows.lookup "internal/bytealg.CountString" = some Extern.BytealgCount.count := by kernel_rfl
theorem row_noe : Extern.allRows.lookup "internal/abi.NoEscape" = some Extern.AbiNoEscape.same := by kernel_rfl

theorem nextRow_iby : Extern.allNextRows.lookup "internal/bytealg.IndexByte" = none := by kernel_rfl
theorem genRow_iby : Extern.allGenericRows.lookup "internal/bytealg.IndexByte" = none := by kernel_rfl
theorem typRow_iby : Extern.allTypedRows.lookup "internal/bytealg.IndexByte" = none := by kernel_rfl
theorem row_iby : Extern.allRows.lookup "internal/bytealg.IndexByte" = some Extern.BytealgIndexByte.indexByte := by kernel_rfl
theorem nextRow_idx : Extern.allNextRows.lookup "internal/bytealg.Index" = none := by kernel_rfl
theorem genRow_idx : Extern.allGenericRows.lookup "internal/bytealg.Index" = none := by kernel_rfl
theorem typRow_idx : Extern.allTypedRows.lookup "internal/bytealg.Index" = none := by kernel_rfl
theorem row_idx : Extern.allRows.lookup "internal/bytealg.Index" = some Extern.BytealgIndex.index := by kernel_rfl
theorem nextRow_ids : Extern.allNextRows.lookup "internal/bytealg.IndexString" = none := by kernel_rfl
theorem genRow_ids : Extern.allGenericRows.lookup "internal/bytealg.IndexString" = none := by kernel_rfl
theorem typRow_ids : Extern.allTypedRows.lookup "internal/bytealg.IndexString" = none := by kernel_rfl
theorem row_ids : Extern.allRows.lookup "internal/bytealg.IndexString" = some Extern.BytealgIndex.index := by kernel_rfl

/-- The bytes of a text or a slice, read by the machine. -/
theorem bytesOf_run {P : Program} {G : Globs} {base : Nat} {w0 w : World} {j : Inj} {m : Mem} (hm : MemRel G base w0 j m w) {x : EV} {v : Value} {s : List UInt8} (hs : srcS G m x = some s) (hv : VRel j m x v) : (Extern.Bytes.bytesOf v).run P w = .ok ⟨s.toArray⟩ w := by
  unfold srcS at hs
  split at hs
  · cases hs
    cases hv
    rfl
  · cases hs
    obtain ⟨rfl, _⟩ := hv
    rfl
  · rename_i a n cap esz
    obtain ⟨a', cap', rfl, hc, hl, ha⟩ := hv
    obtain ⟨cs, hg, hstr⟩ := Option.bind_eq_some_iff.1 hs
    obtain ⟨hlen, ho, vs, hr, hcell, hrun⟩ := hm.getN (P := P) (a' := a') hg (by
      rcases Nat.eq_zero_or_pos n with h | h
      · exact .inl h
      · exact .inr (ha.ad (by omega)))
    obtain ⟨ns, rfl, rfl⟩ := strE_rel hstr hr
    have hn : ns.length = n := by
      have := hr.length
      rw [List.length_map] at this
      omega
    have := Go.Lib.run_loadBytesX (P := P) w ns a' .empty (fun i x hx => hcell i _ (by rw [List.getElem?_map, hx]; rfl))
    rw [hn] at this
    show (Extern.Bytes.loadBytes a' n .empty).run P w = _
    rw [this]
    congr 1
    apply ByteArray.ext
    show (#[] : Array UInt8) ++ (Go.Lib.bytesOf ns).toArray = _
    simp [Go.Lib.bytesOf]
  · cases hs

theorem iby_run (P : Program) (w : World) (v : Value) (s : List UInt8) (c : Int) (h : (Extern.Bytes.bytesOf v).run P w = .ok ⟨s.toArray⟩ w) : (Extern.BytealgIndexByte.indexByte #[v, .int .u8 c]).run P w = (Extern.BytealgIndexByte.indexByte #[.string ⟨s.toArray⟩, .int .u8 c]).run P w := by
  have e : ∀ v, Extern.BytealgIndexByte.indexByte #[v, .int .u8 c] = (do
      let b ← Extern.Bytes.bytesOf v
      let c ← Extern.Bytes.asByte (.int .u8 c)
      match (List.range b.size).find? fun i => b[i]! == c with
      | some i => pure (goInt i)
      | none => pure (goInt (-1))) := fun _ => rfl
  rw [e, e]
  simp only [Sem.run_bind, h]
  rfl
theorem idx_run (P : Program) (w : World) (v u : Value) (s t : List UInt8) (hv : (Extern.Bytes.bytesOf v).run P w = .ok ⟨s.toArray⟩ w) (hu : (Extern.Bytes.bytesOf u).run P w = .ok ⟨t.toArray⟩ w) : (Extern.BytealgIndex.index #[v, u]).run P w = (Extern.BytealgIndex.index #[.string ⟨s.toArray⟩, .string ⟨t.toArray⟩]).run P w := by
  have e : ∀ v u, Extern.BytealgIndex.index #[v, u] = (do
    let a' ← Extern.Bytes.bytesOf v
    let b' ← Extern.Bytes.bytesOf u
    if b'.size < 2 || (b'.size : Int) > (← Extern.BytealgIndex.maxLen) then
      unsupported (.noEntry "extern/internal/bytealg.Index.length")
    if a'.size ≥ 2 ^ 32 - 15 then
      unsupported (.noEntry "extern/internal/bytealg.Index: a haystack of 2^32 - 15 bytes or more")
    match (List.range (a'.size + 1 - b'.size)).find? fun i => a'.extract i (i + b'.size) == b' with
    | some i => pure (goInt i)
    | none => pure (goInt (-1))) := fun _ _ => rfl
  rw [e, e]
  have b : ∀ q : List UInt8, (Extern.Bytes.bytesOf (.string ⟨q.toArray⟩)).run P w = .ok ⟨q.toArray⟩ w := fun _ => rfl
  simp only [Sem.run_bind, hv, hu, b, Result.andThen_ok]

theorem find_range (s : List UInt8) (c : UInt8) : (List.range s.length).find? (fun i => (ByteArray.mk s.toArray)[i]! == c) = s.findIdx? (· == c) := by
  have hget : ∀ i, i < s.length → (ByteArray.mk s.toArray)[i]! = s[i]! := by
    intro i hi
    have h1 : i < (ByteArray.mk s.toArray).size := hi
    rw [getElem!_pos (ByteArray.mk s.toArray) i h1, getElem!_pos s i hi]
    rfl
  cases hf : s.findIdx? (· == c) with
  | none =>
    rw [List.find?_eq_none]
    intro i hi
    have hi : i < s.length := by simpa using hi
    rw [hget i hi, getElem!_pos s i hi]
    exact fun h => by
      have := List.findIdx?_eq_none_iff.1 hf s[i] (List.getElem_mem hi)
      rw [this] at h
      cases h
  | some i =>
    obtain ⟨hi, h1, h2⟩ := List.findIdx?_eq_some_iff_getElem.1 hf
    rw [List.find?_range_eq_some]
    refine ⟨?_, by simpa using hi, ?_⟩
    · rw [hget i hi, getElem!_pos s i hi]; exact h1
    · intro k hk
      have hk' : k < s.length := by omega
      rw [hget k hk', getElem!_pos s k hk']
      have := h2 k hk
      simpa using this

theorem ibs_run (P : Program) (w : World) (s : List UInt8) (c : Int) : (Extern.BytealgIndexByte.indexByte #[.string ⟨s.toArray⟩, .int .u8 c]).run P w = .ok (.int .i64 (findByte s (UInt8.ofNat c.toNat))) w := by
  have e : Extern.BytealgIndexByte.indexByte #[.string ⟨s.toArray⟩, .int .u8 c] = (do
      let b ← Extern.Bytes.bytesOf (.string ⟨s.toArray⟩)
      let c ← Extern.Bytes.asByte (.int .u8 c)
      match (List.range b.size).find? fun i => b[i]! == c with
      | some i => pure (goInt i)
      | none => pure (goInt (-1))) := rfl
  rw [e]
  have hi : UInt8.ofNat c.toNat = c.toNat.toUInt8 := rfl
  simp only [Extern.Bytes.bytesOf, Extern.Bytes.asByte, Sem.run_bind, Sem.run_pure, Result.andThen_ok]
  have hsz : (ByteArray.mk s.toArray).size = s.length := rfl
  rw [hsz, ← hi]
  have hfr := find_range s (UInt8.ofNat c.toNat)
  rw [hfr]
  unfold findByte
  cases s.findIdx? (· == UInt8.ofNat c.toNat) <;> rfl

theorem cnt_run (P : Program) (w : World) (s : List UInt8) (c : Int) : (Extern.BytealgCount.count #[.string ⟨s.toArray⟩, .int .u8 c]).run P w = .ok (.int .i64 ((⟨s.toArray⟩ : ByteArray).foldl (fun (n : Int) x => if x == c.toNat.toUInt8 then n + 1 else n) ((0 : Nat) : Int))) w := by
  have e : Extern.BytealgCount.count #[.string ⟨s.toArray⟩, .int .u8 c] = (do
      let b ← Extern.Bytes.bytesOf (.string ⟨s.toArray⟩)
      let c ← Extern.Bytes.asByte (.int .u8 c)
      pure (goInt (b.foldl (fun n x => if x == c then n + 1 else n) (0 : Nat)))) := rfl
  rw [e]
  simp only [Extern.Bytes.bytesOf, Extern.Bytes.asByte, Sem.run_bind, Sem.run_pure, Result.andThen_ok, goInt]

theorem prim_ok0 {P : Program} {G : Globs} {base : Nat} {w0 : World} {f : FuncId} {ef : EFunc} {n : Prim} {args : List EV} {m : Mem} {r : EV × Mem} {j : Inj} {w : World} {vs : Array Value} (hmz : ∀ t, n ≠ .mnz t) (hg : getF P f = some ef) (hn : ef.prim = some n) (h : primE n G args m = some r) (hm : MemRel G base w0 j m w) (hv : VsRel j m args vs.toList) :
    ∃ v, (callFunc f vs).run P w = .ok (.value v) w ∧ VRel j m r.1 v := by
  obtain ⟨fn, hfn, hfc⟩ := Option.bind_eq_some_iff.1 hg
  unfold funC at hfc
  split at hfc
  case h_2 =>
    split at hfc
    · cases hfc
    · split at hfc
      · cases hfc
        simp only at hn
        split at hn
        · cases hn; cases h
        · cases hn
      · cases hfc
  rename_i hb
  split at hfc
  case isFalse => cases hfc
  rename_i ho
  split at hfc
  case isTrue =>
    unfold mnzC at hfc
    split at hfc
    · split at hfc
      · cases hfc
        cases hn
        exact absurd rfl (hmz _)
      · cases hfc
    · cases hfc
  split at hfc
  case h_2 => cases hfc
  rename_i n' hn'
  cases hfc
  cases hn
  unfold primC at hn'
  split at hn'
  · rename_i hname
    cases hn'
    replace h : ibsE args m = some r := h
    unfold ibsE at h
    split at h
    case h_2 => cases h
    rename_i s c
    split at h
    case isFalse => cases h
    rename_i hc
    cases h
    obtain ⟨y, ys, hl, rfl, y2, ys2, rfl, rfl, rfl⟩ := hv
    have : vs = #[.string ⟨s.toArray⟩, .int .u8 c] := Array.ext' hl
    subst this
    refine ⟨.int .i64 (findByte s (UInt8.ofNat c.toNat)), ?_, rfl⟩
    have hne : ("internal/bytealg.IndexByteString" == "runtime.NumGoroutine") = false := by decide
    simp only [callFunc, Sem.run_bind, run_program, Result.andThen_ok, hfn, hname, hb, hne, Bool.false_eq_true, if_false, Option.isNone_none, if_true, run_mark, Extern.findNext, ho, nextRow_ibs, nextRow_none, Extern.find, genRow_ibs, typRow_ibs, row_ibs, Option.map_none, Option.orElse_eq_orElse, Option.orElse_eq_or, Option.or_none, Option.none_or, Option.some_or, ibs_run, Sem.run_pure]
  · split at hn'
    case isFalse =>
      split at hn'
      case isFalse =>
        split at hn'
        case isFalse =>
          split at hn'
          case isTrue =>
            rename_i hname
            cases hn'
            replace h : ibyE G args m = some r := h
            unfold ibyE at h
            split at h
            case h_2 => cases h
            rename_i x c
            obtain ⟨s, hs, rfl⟩ := Option.map_eq_some_iff.1 h
            obtain ⟨y, ys, hl, hy, y2, ys2, rfl, rfl, rfl⟩ := hv
            have : vs = #[y, .int .u8 c] := Array.ext' hl
            subst this
            refine ⟨.int .i64 (findByte s (UInt8.ofNat c.toNat)), ?_, rfl⟩
            have hne : ("internal/bytealg.IndexByte" == "runtime.NumGoroutine") = false := by decide
            simp only [callFunc, Sem.run_bind, run_program, Result.andThen_ok, hfn, hname, hb, hne, Bool.false_eq_true, if_false, Option.isNone_none, if_true, run_mark, Extern.findNext, ho, nextRow_iby, nextRow_none, Extern.find, genRow_iby, typRow_iby, row_iby, Option.map_none, Option.orElse_eq_orElse, Option.orElse_eq_or, Option.or_none, Option.none_or, Option.some_or, iby_run P w y s c (bytesOf_run hm hs hy), ibs_run, Sem.run_pure]
          rename_i hnb
          have idx : ∀ name, (name = "internal/bytealg.Index" ∨ name = "internal/bytealg.IndexString") → fn.name = name → (P.globals.findIdx? (·.name == "internal/bytealg.MaxLen")).map (· + 10) = some n' → ∃ v, (callFunc f vs).run P w = .ok (.value v) w ∧ VRel j m r.1 v := by
            intro name hnm hname hn'
            obtain ⟨g, hgl, rfl⟩ := Option.map_eq_some_iff.1 hn'
            replace h : idxE g G args m = some r := h
            unfold idxE at h
            split at h
            case h_2 => cases h
            rename_i x y
            split at h
            case h_2 => cases h
            rename_i s t k hs ht hG
            split at h
            case isFalse => cases h
            rename_i hc
            cases h
            obtain ⟨u, us, hl, hu, z, zs, rfl, hz, rfl⟩ := hv
            have : vs = #[u, z] := Array.ext' hl
            subst this
            have hcell : w.cell? ⟨g, 0, none⟩ = some (.int .i64 k) := by
              obtain ⟨hlt, _, c, ty, fr, hc, hrow⟩ := hm.globs g _ hG
              obtain ⟨v', hv', hr'⟩ := hrow.2 0 _ rfl
              cases hr'
              simp only [World.cell?, hc]
              simpa using hv'
            have hix := Go.Lib.run_indexString (P := P) ⟨s.toArray⟩ ⟨t.toArray⟩ w g k hgl hcell hc.1 hc.2.1 hc.2.2
            refine ⟨.int .i64 (Go.Lib.index s t), ?_, rfl⟩
            have hix2 : (Extern.BytealgIndex.index #[u, z]).run P w = .ok (.int .i64 (Go.Lib.index s t)) w := by
              rw [idx_run P w u z s t (bytesOf_run hm hs hu) (bytesOf_run hm ht hz), hix]
            rcases hnm with rfl | rfl
            · have hne : ("internal/bytealg.Index" == "runtime.NumGoroutine") = false := by decide
              simp only [callFunc, Sem.run_bind, run_program, Result.andThen_ok, hfn, hname, hb, hne, Bool.false_eq_true, if_false, Option.isNone_none, if_true, run_mark, Extern.findNext, ho, nextRow_idx, nextRow_none, Extern.find, genRow_idx, typRow_idx, row_idx, Option.map_none, Option.orElse_eq_orElse, Option.orElse_eq_or, Option.or_none, Option.none_or, Option.some_or, hix2, Sem.run_pure]
            · have hne : ("internal/bytealg.IndexString" == "runtime.NumGoroutine") = false := by decide
              simp only [callFunc, Sem.run_bind, run_program, Result.andThen_ok, hfn, hname, hb, hne, Bool.false_eq_true, if_false, Option.isNone_none, if_true, run_mark, Extern.findNext, ho, nextRow_ids, nextRow_none, Extern.find, genRow_ids, typRow_ids, row_ids, Option.map_none, Option.orElse_eq_orElse, Option.orElse_eq_or, Option.or_none, Option.none_or, Option.some_or, hix2, Sem.run_pure]
          split at hn'
          case isTrue =>
            rename_i hname
            exact idx _ (.inl rfl) hname hn'
          split at hn'
          case isTrue =>
            rename_i hname
            exact idx _ (.inr rfl) hname hn'
          cases hn'
        rename_i hname
        cases hn'
        replace h : cntE args m = some r := h
        unfold cntE at h
        split at h
        case h_2 => cases h
        rename_i s c
        cases h
        obtain ⟨y, ys, hl, rfl, y2, ys2, rfl, rfl, rfl⟩ := hv
        have : vs = #[.string ⟨s.toArray⟩, .int .u8 c] := Array.ext' hl
        subst this
        refine ⟨.int .i64 ((⟨s.toArray⟩ : ByteArray).foldl (fun (n : Int) x => if x == c.toNat.toUInt8 then n + 1 else n) ((0 : Nat) : Int)), ?_, rfl⟩
        have hne : ("internal/bytealg.CountString" == "runtime.NumGoroutine") = false := by decide
        simp only [callFunc, Sem.run_bind, run_program, Result.andThen_ok, hfn, hname, hb, hne, Bool.false_eq_true, if_false, Option.isNone_none, if_true, run_mark, Extern.findNext, ho, nextRow_cnt, nextRow_none, Extern.find, genRow_cnt, typRow_cnt, row_cnt, Option.map_none, Option.orElse_eq_orElse, Option.orElse_eq_or, Option.or_none, Option.none_or, Option.some_or, cnt_run, Sem.run_pure]
      rename_i hname
      cases hn'
      replace h : ffbE args m = some r := h
      unfold ffbE at h
      split at h
      case h_2 => cases h
      rename_i n
      cases h
      obtain ⟨y, ys, hl, rfl, rfl⟩ := hv
      have : vs = #[.int .u64 n] := Array.ext' hl
      subst this
      refine ⟨.float .f64 n.toNat, ?_, rfl⟩
      have hne : ("math.Float64frombits" == "runtime.NumGoroutine") = false := by decide
      simp only [callFunc, Sem.run_bind, run_program, Result.andThen_ok, hfn, hname, hb, hne, Bool.false_eq_true, if_false, Option.isNone_none, if_true, run_mark, Extern.findNext, ho, nextRow_ffb, nextRow_none, Extern.find, genRow_ffb, typRow_ffb, row_ffb, Option.map_none, Option.orElse_eq_orElse, Option.orElse_eq_or, Option.or_none, Option.none_or, Option.some_or]
      rfl
    rename_i hname
    cases hn'
    replace h : noeE args m = some r := h
    unfold noeE at h
    split at h
    case h_2 => cases h
    rename_i x
    cases h
    obtain ⟨y, ys, hl, hr, rfl⟩ := hv
    have : vs = #[y] := Array.ext' hl
    subst this
    refine ⟨y, ?_, hr⟩
    have hne : ("internal/abi.NoEscape" == "runtime.NumGoroutine") = false := by decide
    simp only [callFunc, Sem.run_bind, run_program, Result.andThen_ok, hfn, hname, hb, hne, Bool.false_eq_true, if_false, Option.isNone_none, if_true, run_mark, Extern.findNext, ho, nextRow_noe, nextRow_none, Extern.find, genRow_noe, typRow_noe, row_noe, Option.map_none, Option.orElse_eq_orElse, Option.orElse_eq_or, Option.or_none, Option.none_or, Option.some_or]
    rfl

theorem nextRow_mnz : Extern.allNextRows.lookup "internal/bytealg.MakeNoZero" = none := by kernel_rfl
theorem genRow_mnz : Extern.allGenericRows.lookup "internal/bytealg.MakeNoZero" = none := by kernel_rfl
theorem row_mnz : Extern.allRows.lookup "internal/bytealg.MakeNoZero" = none := by kernel_rfl
theorem typRow_mnz : Extern.allTypedRows.lookup "internal/bytealg.MakeNoZero" = some Extern.BytealgMakeNoZero.makeNoZero := by kernel_rfl
theorem digits_size : ∀ (n t : Nat) (acc : Array Value), (Extern.BytealgMakeNoZero.digits n t acc).size = acc.size + n
  | 0, _, acc => rfl
  | n + 1, t, acc => by
    rw [Extern.BytealgMakeNoZero.digits, digits_size n]
    simp only [Array.size_push]
    omega
theorem mnz_run (ps rs : Array TypeId) (k : Int) : Extern.BytealgMakeNoZero.makeNoZero ps rs #[.int .i64 k] = (do
    let some t := rs[0]? | stuck "bytealg.MakeNoZero: no result type"
    let .slice elem ← underlying t | stuck "bytealg.MakeNoZero: slice type expected"
    if k < 0 || k > 2 ^ 48 then runtimePanic (.error "makeslice: len out of range")
    let cap ← choose (.appendCap k.toNat 0 elem)
    askRoom cap
    let bytes ← choose (.extern "internal/bytealg.MakeNoZero.bytes" 0)
    let a ← newRow elem (Extern.BytealgMakeNoZero.digits cap bytes #[])
    pure (.slice (some a) k.toNat cap)) := rfl
theorem tagC_spec' {P : Program} {e : TypeId} (h : typeK ≤ tagC P e) : e + 1 = tagC P e / typeK ∧ tagC P e % typeK ≠ 0 := by
  unfold tagC at h ⊢
  split at h
  · rw [Nat.mul_add_div (by decide), Nat.mul_add_mod]
    exact ⟨Nat.add_comm e 1, by decide⟩
  · exact absurd h (by decide)
theorem prim_ok (P : Program) (G : Globs) (base : Nat) (w0 : World) : PrimOk P G base w0 := by
  intro f ef n args m r j w vs hg hn h hm hv
  by_cases hnm : ∃ t, n = .mnz t
  · obtain ⟨tag, rfl⟩ := hnm
    obtain ⟨fn, hfn, hfc⟩ := Option.bind_eq_some_iff.1 hg
    unfold funC at hfc
    split at hfc
    case h_2 =>
      split at hfc
      · cases hfc
      · split at hfc
        · cases hfc
          simp only at hn
          split at hn
          · cases hn
          · cases hn
        · cases hfc
    rename_i hb
    split at hfc
    case isFalse => cases hfc
    rename_i ho
    split at hfc
    case isFalse =>
      split at hfc
      · cases hfc; cases hn
      · cases hfc
    rename_i hname
    unfold mnzC at hfc
    split at hfc
    case h_2 => cases hfc
    rename_i t ht
    split at hfc
    case h_2 => cases hfc
    rename_i e hu
    cases hfc
    cases hn
    replace h : mnzE (tagC P e) args m = some r := h
    unfold mnzE at h
    split at h
    case h_2 => cases h
    rename_i k
    split at h
    case isFalse => cases h
    rename_i hk
    cases h
    obtain ⟨y, ys, hl, rfl, rfl⟩ := hv
    have : vs = #[.int .i64 k] := Array.ext' hl
    subst this
    have hne : ("internal/bytealg.MakeNoZero" == "runtime.NumGoroutine") = false := by decide
    have hk2 : ¬ (k < 0 ∨ 281474976710656 < k) := by omega
    have hr0 : fn.resultTypes[0]? = some t := ht
    have hcap : ∃ cap, k.toNat ≤ cap ∧ ∃ c : Array Value, c.size = cap ∧ (callFunc f #[.int .i64 k]).run P w = .ok (.value (.slice (some ⟨w.heap.size, 0, none⟩) k.toNat cap)) (w.drew.drew.alloc (.cells c e)) := by
      refine ⟨k.toNat + w.tape w.drawn (.appendCap k.toNat 0 e) % (2 ^ 63 - k.toNat), by omega, Extern.BytealgMakeNoZero.digits (k.toNat + w.tape w.drawn (.appendCap k.toNat 0 e) % (2 ^ 63 - k.toNat)) (w.drew.tape w.drew.drawn (.extern "internal/bytealg.MakeNoZero.bytes" 0)) #[], by rw [digits_size]; simp, ?_⟩
      simp only [callFunc, Sem.run_bind, run_program, Result.andThen_ok, hfn, hname, hb, hne, Bool.false_eq_true, if_false, Option.isNone_none, if_true, run_mark, Extern.findNext, ho, nextRow_mnz, nextRow_none, Extern.find, genRow_mnz, typRow_mnz, row_mnz, Option.map_none, Option.map_some, Option.orElse_eq_orElse, Option.orElse_eq_or, Option.or_none, Option.none_or, Option.some_or]
      simp only [mnz_run, hr0, Sem.run_bind, run_underlying hu, Result.andThen_ok]
      have hq : ¬ (decide (k < 0) || decide (k > 2 ^ 48)) = true := by
        simp only [Bool.or_eq_true, decide_eq_true_eq, not_or]
        omega
      rw [if_neg hq]
      simp [newRow, Question.forced, Question.cut]
    obtain ⟨cap, hcap, c, hcs, hrun⟩ := hcap
    exact ⟨_, _, j.lay m.bl.length w.heap.size c.size, hrun, Ext.push j m _ w.heap.size _, hm.drew.drew.push ⟨rfl, c, e, (0, 0), rfl, rfl, ⟨by simp, fun i x hx => by simp at hx⟩, fun _ => .inl rfl, fun ht => ⟨(tagC_spec' ht).1, fun h0 => absurd h0 (tagC_spec' ht).2⟩⟩, _, cap, rfl, hcap, Nat.le_refl _, fresh_slT _ _ _ _ _ _ _ _ (by rfl) (by omega)⟩
  · obtain ⟨v, h1, h2⟩ := prim_ok0 (fun t e => hnm ⟨t, e⟩) hg hn h hm hv
    have e := prim_same (fun t e => hnm ⟨t, e⟩) h
    rw [e]
    exact ⟨v, w, j, h1, Ext.refl j m, hm, h2⟩

/-- Whatever the evaluator answers, the machine's call comes to. -/
theorem calls_of_evO {P : Program} {T : FuncId → Option EFunc} (hmix : P.follows .mixedOrders = true) (hT : FitsO P T) {G : Globs} {base : Nat} {w0 : World} (horc : OrcOk P T G base w0) {f : FuncId} {ef : EFunc} (hf : T f = some ef) (hp : ef.prim = none) {args : List EV} {m : Mem} {r : CR} (h : Comes T G f args m none r)
    {j : Inj} {w : World} {vs : Array Value} (hm : MemRel G base w0 j m w) (hv : VsRel j m args vs.toList) : Calls P f vs w (Ends G base w0 j m r) := by
  obtain ⟨k, hk⟩ := h
  rcases (fun_sound hmix hT (prim_ok P G base w0) horc k).1 f args m r hk j w vs hm hv with ⟨_, h2⟩ | ⟨v, wv, h1, _⟩
  · exact h2
  · exfalso
    obtain ⟨fn, hfn, hfc⟩ := Option.bind_eq_some_iff.1 ((hT f ef hf).resolve_right (by rintro ⟨o, ho⟩; rw [hp] at ho; cases ho))
    obtain ⟨c, hb, hname, _, _⟩ := funC_body hfc (.inl hp)
    simp only [callFunc, Sem.run_bind, run_program, Result.andThen_ok, hfn, hname, hb, Bool.false_eq_true, if_false, Option.isNone_some, Sem.run_pure] at h1
    cases h1

theorem calls_of_ev {P : Program} {T : FuncId → Option EFunc} (hmix : P.follows .mixedOrders = true) (hT : Fits P T) {G : Globs} {base : Nat} {w0 : World} {f : FuncId} {ef : EFunc} (hf : T f = some ef) (hp : ef.prim = none) {args : List EV} {m : Mem} {r : CR} (h : Comes T G f args m none r)
    {j : Inj} {w : World} {vs : Array Value} (hm : MemRel G base w0 j m w) (hv : VsRel j m args vs.toList) : Calls P f vs w (Ends G base w0 j m r) :=
  calls_of_evO hmix hT.o hT.orc hf hp h hm hv

end Go.Ev
