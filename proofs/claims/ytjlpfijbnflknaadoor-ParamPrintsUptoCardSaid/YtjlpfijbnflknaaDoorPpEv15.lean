/- The engine, part 15: functions without a Go body. There are no conditions. -/
import Derived.Test.YtjlpfijbnflknaaDoorPpEv14
set_option linter.unusedSectionVars false
set_option linter.unusedVariables false
set_option linter.unusedSimpArgs false
namespace Go.Ev
open Go.RowKit (Below)

theorem nextRow_none : Extern.allNextRows.lookup "" = none := by kernel_rfl
theorem nextRow_ibs : Extern.allNextRows.lookup "internal/bytealg.IndexByteString" = none := by kernel_rfl
theorem nextRow_noe : Extern.allNextRows.lookup "internal/abi.NoEscape" = none := by kernel_rfl
theorem genRow_ibs : Extern.allGenericRows.lookup "internal/bytealg.IndexByteString" = none := by kernel_rfl
theorem genRow_noe : Extern.allGenericRows.lookup "internal/abi.NoEscape" = none := by kernel_rfl
theorem typRow_ibs : Extern.allTypedRows.lookup "internal/bytealg.IndexByteString" = none := by kernel_rfl
theorem typRow_noe : Extern.allTypedRows.lookup "internal/abi.NoEscape" = none := by kernel_rfl
theorem row_ibs : Extern.allRows.lookup "internal/bytealg.IndexByteString" = some Extern.BytealgIndexByte.indexByte := by kernel_rfl
theorem nextRow_ffb : Extern.allNextRows.lookup "math.Float64frombits" = none := by kernel_rfl
theorem genRow_ffb : Extern.allGenericRows.lookup "math.Float64frombits" = none := by kernel_rfl
theorem typRow_ffb : Extern.allTypedRows.lookup "math.Float64frombits" = none := by kernel_rfl
theorem row_ffb : Extern.allRows.lookup "math.Float64frombits" = some Extern.MathFloatBits.float64frombits := by kernel_rfl
theorem nextRow_cnt : Extern.allNextRows.lookup "internal/bytealg.CountString" = none := by kernel_rfl
theorem genRow_cnt : Extern.allGenericRows.lookup "internal/bytealg.CountString" = none := by kernel_rfl
theorem typRow_cnt : Extern.allTypedRows.lookup "internal/bytealg.CountString" = none := by kernel_rfl
theorem row_cnt : Extern.allRows.lookup "internal/bytealg.CountString" = some Extern.BytealgCount.count := by kernel_rfl
theorem row_noe : Extern.allRows.lookup "internal/abi.NoEscape" = some Extern.AbiNoEscape.same := by kernel_rfl

theorem find_range (s : List UInt8) (c : UInt8) : (List.range s.length).find? (fun i => (ByteArray.mk s.toArray)[i]! == c) = s.findIdx? (· == c) := by
  have hget : ∀ i, i < s.length → (ByteArray.mk s.toArray)[i]! = s[i]! := by
    intro i hi
    have h1 : i < (ByteArray.mk s.toArray).size := hi
    rw [getElem!_pos (ByteArray.mk s.toArray) i h1, getElem!_pos s i hi]
    rfl
  cases hf : s.findIdx? (· == c) with
  | none =>
    rw [List.find?_eq_none]
    intro i hi
    have hi : i < s.length := by simpa using hi
    rw [hget i hi, getElem!_pos s i hi]
    exact fun h => by
      have := List.findIdx?_eq_none_iff.1 hf s[i] (List.getElem_mem hi)
      rw [this] at h
      cases h
  | some i =>
    obtain ⟨hi, h1, h2⟩ := List.findIdx?_eq_some_iff_getElem.1 hf
    rw [List.find?_range_eq_some]
    refine ⟨?_, by simpa using hi, ?_⟩
    · rw [hget i hi, getElem!_pos s i hi]; exact h1
    · intro k hk
      have hk' : k < s.length := by omega
      rw [hget k hk', getElem!_pos s k hk']
      have := h2 k hk
      simpa using this

theorem ibs_run (P : Program) (w : World) (s : List UInt8) (c : Int) : (Extern.BytealgIndexByte.indexByte #[.string ⟨s.toArray⟩, .int .u8 c]).run P w = .ok (.int .i64 (findByte s (UInt8.ofNat c.toNat))) w := by
  have e : Extern.BytealgIndexByte.indexByte #[.string ⟨s.toArray⟩, .int .u8 c] = (do
      let b ← Extern.Bytes.bytesOf (.string ⟨s.toArray⟩)
      let c ← Extern.Bytes.asByte (.int .u8 c)
      match (List.range b.size).find? fun i => b[i]! == c with
      | some i => pure (goInt i)
      | none => pure (goInt (-1))) := rfl
  rw [e]
  have hi : UInt8.ofNat c.toNat = c.toNat.toUInt8 := rfl
  simp only [Extern.Bytes.bytesOf, Extern.Bytes.asByte, Sem.run_bind, Sem.run_pure, Result.andThen_ok]
  have hsz : (ByteArray.mk s.toArray).size = s.length := rfl
  rw [hsz, ← hi]
  have hfr := find_range s (UInt8.ofNat c.toNat)
  rw [hfr]
  unfold findByte
  cases s.findIdx? (· == UInt8.ofNat c.toNat) <;> rfl

theorem cnt_run (P : Program) (w : World) (s : List UInt8) (c : Int) : (Extern.BytealgCount.count #[.string ⟨s.toArray⟩, .int .u8 c]).run P w = .ok (.int .i64 ((⟨s.toArray⟩ : ByteArray).foldl (fun (n : Int) x => if x == c.toNat.toUInt8 then n + 1 else n) ((0 : Nat) : Int))) w := by
  have e : Extern.BytealgCount.count #[.string ⟨s.toArray⟩, .int .u8 c] = (do
      let b ← Extern.Bytes.bytesOf (.string ⟨s.toArray⟩)
      let c ← Extern.Bytes.asByte (.int .u8 c)
      pure (goInt (b.foldl (fun n x => if x == c then n + 1 else n) (0 : Nat)))) := rfl
  rw [e]
  simp only [Extern.Bytes.bytesOf, Extern.Bytes.asByte, Sem.run_bind, Sem.run_pure, Result.andThen_ok, goInt]

theorem prim_ok (P : Program) (G : Globs) (base : Nat) (w0 : World) : PrimOk P G base w0 := by
  intro f ef n args m r j w vs hg hn h hm hv
  obtain ⟨fn, hfn, hfc⟩ := Option.bind_eq_some_iff.1 hg
  unfold funC at hfc
  split at hfc
  case h_2 =>
    split at hfc
    · cases hfc
    · split at hfc
      · cases hfc; cases hn
      · cases hfc
  rename_i hb
  split at hfc
  case isFalse => cases hfc
  rename_i ho
  split at hfc
  case h_2 => cases hfc
  rename_i n' hn'
  cases hfc
  cases hn
  unfold primC at hn'
  split at hn'
  · rename_i hname
    cases hn'
    replace h : ibsE args m = some r := h
    unfold ibsE at h
    split at h
    case h_2 => cases h
    rename_i s c
    split at h
    case isFalse => cases h
    rename_i hc
    cases h
    obtain ⟨y, ys, hl, rfl, y2, ys2, rfl, rfl, rfl⟩ := hv
    have : vs = #[.string ⟨s.toArray⟩, .int .u8 c] := Array.ext' hl
    subst this
    refine ⟨.int .i64 (findByte s (UInt8.ofNat c.toNat)), ?_, rfl⟩
    have hne : ("internal/bytealg.IndexByteString" == "runtime.NumGoroutine") = false := by decide
    simp only [callFunc, Sem.run_bind, run_program, Result.andThen_ok, hfn, hname, hb, hne, Bool.false_eq_true, if_false, Option.isNone_none, if_true, run_mark, Extern.findNext, ho, nextRow_ibs, nextRow_none, Extern.find, genRow_ibs, typRow_ibs, row_ibs, Option.map_none, Option.orElse_eq_orElse, Option.orElse_eq_or, Option.or_none, Option.none_or, Option.some_or, ibs_run, Sem.run_pure]
  · split at hn'
    case isFalse =>
      split at hn'
      case isFalse =>
        split at hn'
        case isFalse => cases hn'
        rename_i hname
        cases hn'
        replace h : cntE args m = some r := h
        unfold cntE at h
        split at h
        case h_2 => cases h
        rename_i s c
        cases h
        obtain ⟨y, ys, hl, rfl, y2, ys2, rfl, rfl, rfl⟩ := hv
        have : vs = #[.string ⟨s.toArray⟩, .int .u8 c] := Array.ext' hl
        subst this
        refine ⟨.int .i64 ((⟨s.toArray⟩ : ByteArray).foldl (fun (n : Int) x => if x == c.toNat.toUInt8 then n + 1 else n) ((0 : Nat) : Int)), ?_, rfl⟩
        have hne : ("internal/bytealg.CountString" == "runtime.NumGoroutine") = false := by decide
        simp only [callFunc, Sem.run_bind, run_program, Result.andThen_ok, hfn, hname, hb, hne, Bool.false_eq_true, if_false, Option.isNone_none, if_true, run_mark, Extern.findNext, ho, nextRow_cnt, nextRow_none, Extern.find, genRow_cnt, typRow_cnt, row_cnt, Option.map_none, Option.orElse_eq_orElse, Option.orElse_eq_or, Option.or_none, Option.none_or, Option.some_or, cnt_run, Sem.run_pure]
      rename_i hname
      cases hn'
      replace h : ffbE args m = some r := h
      unfold ffbE at h
      split at h
      case h_2 => cases h
      rename_i n
      cases h
      obtain ⟨y, ys, hl, rfl, rfl⟩ := hv
      have : vs = #[.int .u64 n] := Array.ext' hl
      subst this
      refine ⟨.float .f64 n.toNat, ?_, rfl⟩
      have hne : ("math.Float64frombits" == "runtime.NumGoroutine") = false := by decide
      simp only [callFunc, Sem.run_bind, run_program, Result.andThen_ok, hfn, hname, hb, hne, Bool.false_eq_true, if_false, Option.isNone_none, if_true, run_mark, Extern.findNext, ho, nextRow_ffb, nextRow_none, Extern.find, genRow_ffb, typRow_ffb, row_ffb, Option.map_none, Option.orElse_eq_orElse, Option.orElse_eq_or, Option.or_none, Option.none_or, Option.some_or]
      rfl
    rename_i hname
    cases hn'
    replace h : noeE args m = some r := h
    unfold noeE at h
    split at h
    case h_2 => cases h
    rename_i x
    cases h
    obtain ⟨y, ys, hl, hr, rfl⟩ := hv
    have : vs = #[y] := Array.ext' hl
    subst this
    refine ⟨y, ?_, hr⟩
    have hne : ("internal/abi.NoEscape" == "runtime.NumGoroutine") = false := by decide
    simp only [callFunc, Sem.run_bind, run_program, Result.andThen_ok, hfn, hname, hb, hne, Bool.false_eq_true, if_false, Option.isNone_none, if_true, run_mark, Extern.findNext, ho, nextRow_noe, nextRow_none, Extern.find, genRow_noe, typRow_noe, row_noe, Option.map_none, Option.orElse_eq_orElse, Option.orElse_eq_or, Option.or_none, Option.none_or, Option.some_or]
    rfl

/-- Whatever the evaluator answers, the machine's call comes to. -/
theorem calls_of_evO {P : Program} {T : FuncId → Option EFunc} (hmix : P.follows .mixedOrders = true) (hT : FitsO P T) {G : Globs} {base : Nat} {w0 : World} (horc : OrcOk P T G base w0) {f : FuncId} {ef : EFunc} (hf : T f = some ef) (hp : ef.prim = none) {args : List EV} {m : Mem} {r : CR} (h : Comes T G f args m none r)
    {j : Inj} {w : World} {vs : Array Value} (hm : MemRel G base w0 j m w) (hv : VsRel j m args vs.toList) : Calls P f vs w (Ends G base w0 j m r) := by
  obtain ⟨k, hk⟩ := h
  rcases (fun_sound hmix hT (prim_ok P G base w0) horc k).1 f args m r hk j w vs hm hv with ⟨_, h2⟩ | ⟨v, h1, _⟩
  · exact h2
  · exfalso
    obtain ⟨fn, hfn, hfc⟩ := Option.bind_eq_some_iff.1 ((hT f ef hf).resolve_right (by rintro ⟨o, ho⟩; rw [hp] at ho; cases ho))
    obtain ⟨c, hb, hname, _, _⟩ := funC_body hfc hp
    simp only [callFunc, Sem.run_bind, run_program, Result.andThen_ok, hfn, hname, hb, Bool.false_eq_true, if_false, Option.isNone_some, Sem.run_pure] at h1
    cases h1

theorem calls_of_ev {P : Program} {T : FuncId → Option EFunc} (hmix : P.follows .mixedOrders = true) (hT : Fits P T) {G : Globs} {base : Nat} {w0 : World} {f : FuncId} {ef : EFunc} (hf : T f = some ef) (hp : ef.prim = none) {args : List EV} {m : Mem} {r : CR} (h : Comes T G f args m none r)
    {j : Inj} {w : World} {vs : Array Value} (hm : MemRel G base w0 j m w) (hv : VsRel j m args vs.toList) : Calls P f vs w (Ends G base w0 j m r) :=
  calls_of_evO hmix hT.o hT.orc hf hp h hm hv

end Go.Ev
