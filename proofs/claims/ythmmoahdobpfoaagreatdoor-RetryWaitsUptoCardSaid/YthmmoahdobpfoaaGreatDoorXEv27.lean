/- The engine, part 27: small laws for walking by equations: rows of memory as rewriting, strings byte by byte. There are no conditions. -/
import Derived.Test.YthmmoahdobpfoaaGreatDoorXEv26
set_option linter.unusedSimpArgs false
set_option linter.unusedSectionVars false
set_option linter.unusedVariables false
namespace Go.Ev
variable {T : FuncId → Option EFunc} {G : Globs}

theorem RowIs.get {m : Mem} {b : Nat} {cs : List EV} (h : RowIs m b cs) (o : Nat) : m.get G ⟨.mem b 0, o⟩ = cs[o]? := by
  have h : m.bl[b]? = some (.cells cs 0 true) := h
  simp only [Mem.get, Mem.row, h, if_true, Option.bind_some]
theorem RowIs.getN {m : Mem} {b : Nat} {cs : List EV} (h : RowIs m b cs) (o n : Nat) : m.getN G ⟨.mem b 0, o⟩ n = if n = 0 then some [] else if o + n ≤ cs.length then some ((cs.drop o).take n) else none := by
  have h : m.bl[b]? = some (.cells cs 0 true) := h
  simp only [Mem.getN, Mem.row, h, if_true, Option.bind_some]
theorem wrap_of {z : Int} {n : Nat} (h : z = n) (hn : n ≤ 9223372036854775807) : IntKind.i64.wrap z = ((n : Nat) : Int) := by
  subst h
  unfold IntKind.wrap
  simp [IntKind.bits, IntKind.signed]
  omega
theorem wsucc {i n : Nat} (h : i < n) (hn : n ≤ 4611686018427387904) : IntKind.i64.wrap ((i : Int) + 1) = ((i + 1 : Nat) : Int) := wrap_of (by omega) (by omega)
theorem wrap64 {z : Int} (h0 : -9223372036854775808 ≤ z) (h1 : z ≤ 9223372036854775807) : IntKind.i64.wrap z = z := by
  unfold IntKind.wrap
  simp [IntKind.bits, IntKind.signed]
  omega
theorem wrap8 {z : Int} (h0 : 0 ≤ z) (h1 : z < 256) : IntKind.u8.wrap z = z := by
  unfold IntKind.wrap
  simp [IntKind.bits, IntKind.signed]
  omega
theorem wrapu64 {z : Int} (h0 : 0 ≤ z) (h1 : z < 18446744073709551616) : IntKind.u64.wrap z = z := by
  unfold IntKind.wrap
  simp [IntKind.bits, IntKind.signed]
  omega
theorem bytes_len {s : List UInt8} : (bytesE s).length = s.length := by simp [bytesE]
theorem bytes_app {s t : List UInt8} : bytesE (s ++ t) = bytesE s ++ bytesE t := by simp [bytesE]
theorem Nat256 {P : Nat → Prop} (h : ∀ n : Fin 256, P n.val) (b : UInt8) : P b.toNat := h ⟨b.toNat, b.toNat_lt⟩
theorem u8_eq (a b : UInt8) : (((a.toNat : Int)) == ((b.toNat : Int))) = (a == b) := by
  rw [Bool.eq_iff_iff, beq_iff_eq, beq_iff_eq, Int.ofNat_inj]
  exact UInt8.toNat_inj
theorem u8_eqN (a b : UInt8) : (a.toNat == b.toNat) = (a == b) := by
  rw [Bool.eq_iff_iff, beq_iff_eq, beq_iff_eq]
  exact UInt8.toNat_inj
/-- What is asked of every byte can be reckoned. -/
instance decU8 (p : UInt8 → Prop) [DecidablePred p] : Decidable (∀ b, p b) :=
  decidable_of_iff (∀ n : Fin 256, p (UInt8.ofNat n.val)) ⟨fun h b => by
    have := h ⟨b.toNat, b.toNat_lt⟩
    rwa [UInt8.ofNat_toNat] at this, fun h n => h _⟩
theorem get_byte {s : List UInt8} {i : Nat} (h : i < s.length) : s[i]? = some s[i] := List.getElem?_eq_getElem h

/-! ### The first bytes of a kind -/
theorem tw_at {p : UInt8 → Bool} : ∀ {s : List UInt8} {i : Nat} {b : UInt8}, (∀ x ∈ s.take i, p x = true) → s[i]? = some b → p b = false → (s.takeWhile p).length = i
  | [], _, _, _, h, _ => by simp at h
  | x :: s, 0, b, _, h, hb => by
    simp at h
    subst h
    simp [hb]
  | x :: s, i + 1, b, hall, h, hb => by
    have hx := hall x (by simp)
    rw [List.takeWhile_cons_of_pos hx, List.length_cons, tw_at (i := i) (fun y hy => hall y (List.mem_cons_of_mem _ hy)) (by simpa using h) hb]
theorem tw_end {p : UInt8 → Bool} {s : List UInt8} (h : ∀ x ∈ s, p x = true) : (s.takeWhile p).length = s.length := by
  induction s with
  | nil => rfl
  | cons x s ih =>
    rw [List.takeWhile_cons_of_pos (h x (List.mem_cons_self ..)), List.length_cons, ih (fun y hy => h y (List.mem_cons_of_mem _ hy)), List.length_cons]
theorem tw_le {p : UInt8 → Bool} (s : List UInt8) : (s.takeWhile p).length ≤ s.length := (List.takeWhile_sublist p).length_le
theorem take_next {p : UInt8 → Bool} {s : List UInt8} {i : Nat} (hi : i < s.length) (h : ∀ x ∈ s.take i, p x = true) (hb : p s[i] = true) : ∀ x ∈ s.take (i + 1), p x = true := by
  intro x hx
  rw [List.take_succ_eq_append_getElem hi] at hx
  rcases List.mem_append.1 hx with hx | hx
  · exact h x hx
  · simp at hx
    subst hx
    exact hb
end Go.Ev
