/- What an envelope with one field turned is, as cells; slices that grew. There are no conditions. -/
import Derived.Test.YtjomofcdanpdgadGreatDoorRuC5
import Derived.Test.YtjomofcdanpdgadGreatDoorRuEv22
set_option linter.unusedSectionVars false
set_option linter.unusedVariables false
set_option linter.unusedSimpArgs false
namespace Go.Proofs.YtjomofcdanpdgadGreatDoor.recordUnlike
open Go.Ev hiding Comes

variable {G : Globs}
theorem set_skip {a b : List EV} {v : EV} {k off : Nat} (h : a.length = k) : (a ++ b).set (k + off) v = a ++ b.set off v := by
  subst h
  rw [List.set_append_right _ _ (by omega), Nat.add_sub_cancel_left]

section
variable {e : EnvD} {rv tv bv : EV}
theorem env_put_name (s : List UInt8) : (envC e rv tv bv).set 1 (.str s) = envC { e with helo := { e.helo with name := s } } rv tv bv := rfl
theorem host_put_last {h : HostD} (k : HostOk h) (z : Int) (r : List EV) : (hostC h ++ r).set 17 (.int .u8 z) = hostC { h with addr := h.addr.set 15 z } ++ r := by
  simp only [hostC, List.cons_append, List.set_cons_succ]
  rw [List.set_append_left _ _ (by rw [List.length_map, k]; omega), List.map_set]
theorem env_put_addr (k1 : HostOk e.helo) (k2 : HostOk e.peer) (z : Int) : (envC e rv tv bv).set 35 (.int .u8 z) = envC { e with peer := { e.peer with addr := e.peer.addr.set 15 z } } rv tv bv := by
  unfold envC
  rw [show (35 : Nat) = 18 + 17 from rfl, set_skip (hostC_len k1), host_put_last k2]
theorem env_put2 (k1 : HostOk e.helo) (k2 : HostOk e.peer) {off : Nat} {v : EV} : (envC e rv tv bv).set (18 + (18 + off)) v = hostC e.helo ++ (hostC e.peer ++ (([.str e.user] ++ ([.bool e.ext] ++ ([.int .i64 e.time] ++ (pathC e.from rv ++ (optsC e.opts ++ ([tv] ++ ([.bool e.mark] ++ [bv]))))))) : List EV).set off v) := by
  unfold envC
  rw [set_skip (hostC_len k1), set_skip (hostC_len k2)]
theorem env_put_user (k1 : HostOk e.helo) (k2 : HostOk e.peer) (s : List UInt8) : (envC e rv tv bv).set 36 (.str s) = envC { e with user := s } rv tv bv := env_put2 k1 k2 (off := 0)
theorem env_put_ext (k1 : HostOk e.helo) (k2 : HostOk e.peer) (s : Bool) : (envC e rv tv bv).set 37 (.bool s) = envC { e with ext := s } rv tv bv := env_put2 k1 k2 (off := 1)
theorem env_put_time (k1 : HostOk e.helo) (k2 : HostOk e.peer) (s : Int) : (envC e rv tv bv).set 38 (.int .i64 s) = envC { e with time := s } rv tv bv := env_put2 k1 k2 (off := 2)
theorem env_put_kind (k1 : HostOk e.helo) (k2 : HostOk e.peer) (s : Int) : (envC e rv tv bv).set 39 (.int .i64 s) = envC { e with «from» := { e.from with kind := s } } rv tv bv := env_put2 k1 k2 (off := 3)
theorem env_put_route (k1 : HostOk e.helo) (k2 : HostOk e.peer) (v : EV) : (envC e rv tv bv).set 40 v = envC e v tv bv := env_put2 k1 k2 (off := 4)
theorem env_put_loc (k1 : HostOk e.helo) (k2 : HostOk e.peer) (s : List UInt8) : (envC e rv tv bv).set 41 (.str s) = envC { e with «from» := { e.from with loc := s } } rv tv bv := env_put2 k1 k2 (off := 5)
theorem env_put3 (k1 : HostOk e.helo) (k2 : HostOk e.peer) (k : HostOk e.from.host) {off : Nat} {v : EV} : (envC e rv tv bv).set (18 + (18 + (3 + (21 + off)))) v = hostC e.helo ++ (hostC e.peer ++ ([.str e.user] ++ ([.bool e.ext] ++ ([.int .i64 e.time] ++ (pathC e.from rv ++ ((optsC e.opts ++ ([tv] ++ ([.bool e.mark] ++ [bv]))) : List EV).set off v))))) := by
  rw [env_put2 k1 k2]
  congr 2
  rw [show ∀ (a b c : EV) (r : List EV), [a] ++ ([b] ++ ([c] ++ r)) = [a, b, c] ++ r from fun _ _ _ _ => rfl, set_skip (k := 3) rfl, set_skip (pathC_len k)]
  rfl
theorem env_put_wide (k1 : HostOk e.helo) (k2 : HostOk e.peer) (k : HostOk e.from.host) (s : Bool) : (envC e rv tv bv).set 63 (.bool s) = envC { e with opts := { e.opts with b2 := s } } rv tv bv := env_put3 k1 k2 k (off := 3)
theorem env_put_to (k1 : HostOk e.helo) (k2 : HostOk e.peer) (k : HostOk e.from.host) (v : EV) : (envC e rv tv bv).set 69 v = envC e rv v bv := env_put3 k1 k2 k (off := 9)
theorem env_put_mark (k1 : HostOk e.helo) (k2 : HostOk e.peer) (k : HostOk e.from.host) (s : Bool) : (envC e rv tv bv).set 70 (.bool s) = envC { e with mark := s } rv tv bv := env_put3 k1 k2 k (off := 10)
theorem env_put_body (k1 : HostOk e.helo) (k2 : HostOk e.peer) (k : HostOk e.from.host) (v : EV) : (envC e rv tv bv).set 71 v = envC e rv tv v := env_put3 k1 k2 k (off := 11)
theorem env_route (k1 : HostOk e.helo) (k2 : HostOk e.peer) : Sub (envC e rv tv bv) 40 1 [rv] := env_skip2 k1 k2 (off := 4) (sub_skip (k := 1) (off := 3) rfl (sub_skip (k := 1) (off := 2) rfl (sub_skip (k := 1) (off := 1) rfl (sub_skip (a := [.int .i64 e.from.kind]) (k := 1) (off := 0) rfl (sub_here (a := [rv]) rfl)))))
end

/-- A slice that grew: its room is its length. -/
def Gb (m : Mem) (b g esz : Nat) (rows : List (List EV)) : Prop := m.bl[b]? = some (.cells rows.flatten g true) ∧ ∀ r ∈ rows, r.length = esz
theorem Gb.lt {m : Mem} {b g esz : Nat} {rows : List (List EV)} (h : Gb m b g esz rows) : b < m.bl.length := (List.getElem?_eq_some_iff.1 h.1).1
theorem Gb.grown {m M : Mem} (h : Grown m M) {b g esz : Nat} {rows : List (List EV)} (k : Gb m b g esz rows) : Gb M b g esz rows := by
  have hl := k.lt
  obtain ⟨l, h⟩ := h
  exact ⟨by rw [h, List.getElem?_append_left hl, k.1], k.2⟩
theorem Gb.but {m M : Mem} {b b' g esz : Nat} {rows : List (List EV)} (h : But1 b m M) (hb : b' ≠ b) (k : Gb m b' g esz rows) : Gb M b' g esz rows := ⟨by rw [h.2 _ hb, k.1], k.2⟩
theorem gb_append {m : Mem} {b g esz bytes tag : Nat} {rows nr : List (List EV)} (h : Gb m b g esz rows) (hn : ∀ r ∈ nr, r.length = esz) (hg : g < 1000) (hs : (rows.length + nr.length) * bytes ≤ 140737488355328) :
    ∃ g' m', appendE G m esz bytes tag (.slice (some ⟨.mem b g, 0⟩) rows.length rows.length esz) nr.flatten nr.length = some (.slice (some ⟨.mem b g', 0⟩) (rows.length + nr.length) (rows.length + nr.length) esz, m') ∧ Gb m' b g' esz (rows ++ nr) ∧ g' ≤ g + 1 ∧ But1 b m m' ∧ min m.low b ≤ m'.low := by
  have hlt := h.lt
  have hb := h.1
  by_cases h0 : nr.length = 0
  · have : nr = [] := List.length_eq_zero_iff.1 h0
    subst this
    refine ⟨g, m, ?_, ⟨by simpa using h.1, by simpa using h.2⟩, by omega, But1.rfl', by omega⟩
    simp [appendE]
  · have hfl : rows.flatten.length = rows.length * esz := flat_len h.2
    refine ⟨g + 1, ⟨m.bl.set b (.cells (rows.flatten ++ nr.flatten) (g + 1) true), min m.low b⟩, ?_, ⟨?_, ?_⟩, by omega, ⟨by simp, fun j hj => ?_⟩, Nat.le_refl _⟩
    · simp only [appendE, ne_eq, not_true_eq_false, if_false, if_neg (show ¬ (rows.length + nr.length ≤ rows.length) by omega), if_pos hs, hb, Nat.zero_add]
      rw [if_pos ⟨trivial, by omega, by rw [Nat.div_eq_of_lt (by unfold typeK; omega), Nat.div_eq_of_lt (by unfold typeK; omega)], .inl (by unfold typeK; omega)⟩]
      simp only [List.drop_zero, ← hfl, List.take_length]
    · simp [hlt]
    · intro r hr
      rcases List.mem_append.1 hr with hr | hr
      · exact h.2 r hr
      · exact hn r hr
    · simp only
      rw [List.getElem?_set_ne (by omega)]
theorem flat_sub {esz : Nat} : ∀ {cs : List (List EV)} {i : Nat} {r : List EV}, (∀ c ∈ cs, c.length = esz) → cs[i]? = some r → Sub cs.flatten (i * esz) esz r
  | [], _, _, _, h => by simp at h
  | c :: cs, 0, r, hl, h => by
    simp at h
    subst h
    have := hl c (List.mem_cons_self ..)
    rw [Nat.zero_mul]
    exact sub_here this
  | c :: cs, i + 1, r, hl, h => by
    have h1 := hl c (List.mem_cons_self ..)
    have := flat_sub (cs := cs) (fun c hc => hl c (List.mem_cons_of_mem _ hc)) (by simpa using h)
    rw [Nat.succ_mul, Nat.add_comm]
    exact sub_skip h1 this
theorem gb_getN {m : Mem} {b g esz : Nat} {rows : List (List EV)} (h : Gb m b g esz rows) {off n : Nat} {ds : List EV} (hs : Sub rows.flatten off n ds) : m.getN G ⟨.mem b g, off⟩ n = some ds := by
  obtain ⟨h1, h2⟩ := hs
  have hb := h.1
  unfold Mem.getN
  split
  · rename_i h0
    subst h0
    simp at h2
    rw [h2]
  · simp only [Mem.row, hb, if_true, Option.bind_some, if_pos h1, h2]
theorem gb_rows {m : Mem} {b g esz : Nat} {rows : List (List EV)} (h : Gb m b g esz rows) {cap e : Nat} : RowsAt G m esz (.slice (some ⟨.mem b g, 0⟩) rows.length cap e) rows := by
  refine .inr ⟨_, _, _, rfl, fun _ => ?_, fun i r hi => ?_⟩
  · simp only [oldAd, decide_eq_true_eq]
    exact h.lt
  · simp only [Ad.plus, Nat.zero_add]
    exact gb_getN h (flat_sub h.2 hi)
/-- A cell of such a slice turned. -/
theorem gb_put {m : Mem} {b g esz off : Nat} {rows rows' : List (List EV)} {v : EV} (h : Gb m b g esz rows) (ho : off < rows.flatten.length) (hf : rows.flatten.set off v = rows'.flatten) (hl : ∀ r ∈ rows', r.length = esz) :
    ∃ m', m.put1 ⟨.mem b g, off⟩ v = some m' ∧ Gb m' b g esz rows' ∧ But1 b m m' ∧ m'.low = min m.low b := by
  have hlt := h.lt
  have hb := h.1
  refine ⟨⟨m.bl.set b (.cells (rows.flatten.set off v) g true), min m.low b⟩, ?_, ⟨?_, hl⟩, ⟨by simp, fun j hj => ?_⟩, rfl⟩
  · simp only [Mem.put1, Mem.write, hb, true_and, if_pos (show off + 1 ≤ rows.flatten.length by omega)]
  · simp [List.getElem?_set, hlt, hf]
  · simp only
    rw [List.getElem?_set_ne (by omega)]

theorem xor_ne (z : Int) : bitsE .xor .i64 z 1 ≠ z := by
  intro h
  have h2 : (BitVec.ofInt 64 z ^^^ BitVec.ofInt 64 1).toNat % 2 = ((BitVec.ofInt 64 z).toNat + 1) % 2 := by
    rw [BitVec.toNat_xor, show (BitVec.ofInt 64 1).toNat = 1 from by decide]
    generalize (BitVec.ofInt 64 z).toNat = q
    have := Nat.xor_mod_two_pow (a := q) (b := 1) (n := 1)
    simp only [Nat.pow_one] at this
    rw [this]
    rcases Nat.mod_two_eq_zero_or_one q with h | h <;> rw [h] <;> simp <;> omega
  have h3 : (BitVec.ofInt 64 z).toNat = (z % 18446744073709551616).toNat := BitVec.toNat_ofInt z
  have h4 : bitsE .xor .i64 z 1 = IntKind.wrap .i64 ((BitVec.ofInt 64 z ^^^ BitVec.ofInt 64 1).toNat : Int) := rfl
  rw [h4] at h
  generalize (BitVec.ofInt 64 z ^^^ BitVec.ofInt 64 1).toNat = u at *
  unfold IntKind.wrap at h
  simp [IntKind.bits, IntKind.signed] at h
  split at h <;> omega
theorem inc_ne (z : Int) : IntKind.u8.wrap (z + 1) ≠ z := by
  intro h
  unfold IntKind.wrap at h
  simp [IntKind.bits, IntKind.signed] at h
  omega
end Go.Proofs.YtjomofcdanpdgadGreatDoor.recordUnlike
