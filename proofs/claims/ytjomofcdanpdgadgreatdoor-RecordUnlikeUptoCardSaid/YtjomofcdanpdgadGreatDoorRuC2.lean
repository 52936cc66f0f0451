/- A part of the proof of the statement that this claim hands in: what single functions come to. There are no conditions. -/
import Derived.Test.YtjomofcdanpdgadGreatDoorRuFuns
import Derived.Test.YtjomofcdanpdgadGreatDoorRuEv20
set_option linter.unusedSimpArgs false
set_option linter.unusedSectionVars false
set_option linter.unusedVariables false
namespace Go.Proofs.YtjomofcdanpdgadGreatDoor.recordUnlike
open Go.Ev hiding Comes
variable {G : Globs}

/-- A slice whose elements' cells are these rows, each esz cells long. -/
def RowsAt (G : Globs) (m : Mem) (esz : Nat) (v : EV) (rows : List (List EV)) : Prop :=
  (∃ e, v = .slice none 0 0 e ∧ rows = []) ∨
  ∃ a cap e, v = .slice (some a) rows.length cap e ∧ (rows ≠ [] → oldAd m.bl.length a = true) ∧ ∀ (i : Nat) (r : List EV), rows[i]? = some r → m.getN G (a.plus (i * esz)) esz = some r

/-- Rows of texts, bools and whole numbers of these kinds. -/
def Flat (ks : List Nat) (r s : List EV) (b : Bool) : Prop := eqCells ks r s = some b

theorem len_rows {m : Mem} {esz : Nat} {v : EV} {rows : List (List EV)} (h : RowsAt G m esz v rows) {A : Fr} {x : Opd} (hx : opd A x = v) (m2 : Mem) : evVal G (.lenSl x) A m2 = some (.int .i64 rows.length, m2) := by
  simp only [evVal, hx]
  rcases h with ⟨e, rfl, rfl⟩ | ⟨a, cap, e, rfl, _⟩ <;> rfl
end Go.Proofs.YtjomofcdanpdgadGreatDoor.recordUnlike
namespace Go.Proofs.YtjomofcdanpdgadGreatDoor.recordUnlike
open Go.Ev hiding Comes
structure HostD where
  kind : Int
  name : List UInt8
  addr : List Int
  deriving DecidableEq
def hostC (h : HostD) : List EV := .int .i64 h.kind :: .str h.name :: h.addr.map (.int .u8 ·)
def intsK (n : Nat) : List Nat := List.replicate n 2
theorem eq_ints : ∀ (a b : List Int), a.length = b.length → eqCells (intsK a.length) (a.map (.int .u8 ·)) (b.map (.int .u8 ·)) = some (decide (a = b))
  | [], [], _ => rfl
  | x :: a, y :: b, h => by
    have ih := eq_ints a b (by simpa using h)
    simp only [intsK] at ih ⊢
    simp only [List.length_cons, List.replicate_succ, List.map_cons, eqCells, eqCell, if_true, ih]
    congr 1
    by_cases h1 : x = y <;> by_cases h2 : a = b <;> simp [h1, h2]
theorem eq_host (a b : HostD) (ha : a.addr.length = 16) (hb : b.addr.length = 16) : eqCells [2, 3, 2, 2, 2, 2, 2, 2, 2, 2, 2, 2, 2, 2, 2, 2, 2, 2] (hostC a) (hostC b) = some (decide (a = b)) := by
  have h := eq_ints a.addr b.addr (by omega)
  rw [ha] at h
  have e : [2, 3, 2, 2, 2, 2, 2, 2, 2, 2, 2, 2, 2, 2, 2, 2, 2, 2] = 2 :: 3 :: intsK 16 := rfl
  rw [e]
  simp only [hostC, eqCells, eqCell, if_true, h]
  congr 1
  obtain ⟨k, n, ad⟩ := a
  obtain ⟨k', n', ad'⟩ := b
  by_cases h1 : k = k' <;> by_cases h2 : n = n' <;> by_cases h3 : ad = ad' <;> simp [h1, h2, h3]
end Go.Proofs.YtjomofcdanpdgadGreatDoor.recordUnlike

namespace Go.Proofs.YtjomofcdanpdgadGreatDoor.recordUnlike
open Go.Ev hiding Comes
variable {G : Globs}
theorem leave_same' (m : Mem) (v : EV) (h : noref m.bl.length v = true) : leaveE m v ⟨m.bl, m.bl.length⟩ = m := by
  simp [leaveE, h]

theorem wrap_ok {z : Int} {n : Nat} (h : z = n) (hn : n ≤ 9223372036854775807) : IntKind.i64.wrap z = ((n : Nat) : Int) := by
  subst h
  simp only [IntKind.wrap, IntKind.bits, IntKind.signed]
  simp
  omega

theorem row_get {m : Mem} {esz : Nat} {v : EV} {rows : List (List EV)} (h : RowsAt G m esz v rows) {i : Nat} (hi : i < rows.length) : ∃ a cap e, v = .slice (some a) rows.length cap e ∧ oldAd m.bl.length a = true ∧ m.getN G (a.plus (i * esz)) esz = some rows[i] := by
  rcases h with ⟨e, rfl, rfl⟩ | ⟨a, cap, e, rfl, ho, hg⟩
  · simp at hi
  · exact ⟨a, cap, e, rfl, ho (by rintro rfl; simp at hi), hg i _ (List.getElem?_eq_getElem hi)⟩

theorem c21 (m : Mem) (x y : EV) (hs ht : List HostD) (hx : RowsAt G m 18 x (hs.map hostC)) (hy : RowsAt G m 18 y (ht.map hostC)) (h1 : ∀ h ∈ hs, h.addr.length = 16) (h2 : ∀ h ∈ ht, h.addr.length = 16) (hN : hs.length ≤ 2000000) :
    Go.Ev.Comes T G 21 [x, y] m none ⟨.val (.bool (decide (hs = ht))), m, none⟩ := by
  refine comes_of T21 rfl ?_
  refine wpC_seq (wpC_reg (wpOps_step rfl ?_))
  simp only [stepE, evVal, opd]
  refine wpOps_nil (wpC_seq (wpC_seq (wpC_reg ?_)))
  refine wpOps_step rfl ?_
  simp only [stepE, evVal, opd, upd, argsE, List.getD, List.getElem?_cons_zero, Option.getD_some, Nat.reduceEqDiff, ↓reduceIte]
  refine wpOps_step rfl ?_
  simp only [stepE]
  rw [len_rows hx (by simp [opd, upd])]
  refine wpOps_step rfl ?_
  simp only [stepE, evVal, opd, upd, argsE, List.getD, List.getElem?_cons_zero, List.getElem?_cons_succ, Option.getD_some, Nat.reduceEqDiff, ↓reduceIte]
  refine wpOps_step rfl ?_
  simp only [stepE]
  rw [len_rows hy (by simp [opd, upd])]
  refine wpOps_step rfl ?_
  simp only [stepE, evVal, opd, upd, Nat.reduceEqDiff, ↓reduceIte, binE, binInt, Option.map_some, List.length_map]
  refine wpOps_nil ?_
  refine wpC_cond (t := ((hs.length : Int) != (ht.length : Int))) (by simp [opd, upd]) (fun hne => ?_) (fun heq => ?_)
  · refine wpC_seq (wpC_reg (wpOps_step rfl ?_))
    simp only [stepE, evVal, opd]
    refine wpOps_nil (wpC_ret ⟨rfl, [.bool (decide (hs = ht))], ?_, ?_⟩)
    · have : decide (hs = ht) = false := by
        simp only [bne_iff_ne, ne_eq, Int.natCast_inj] at hne
        exact decide_eq_false fun e => hne (by rw [e])
      simp only [F21, resultsE, resE, upd, ↓reduceIte, this]
    · simp only [oneE, leave_same' m (.bool (decide (hs = ht))) rfl]
  · have hlen : hs.length = ht.length := Int.natCast_inj.1 (by simpa using heq)
    refine wpC_skip (wpC_seq (wpC_seq (wpC_reg (wpOps_step rfl ?_))))
    simp only [stepE, evVal, opd, upd, argsE, List.getD, List.getElem?_cons_zero, Option.getD_some, Nat.reduceEqDiff, ↓reduceIte]
    refine wpOps_step rfl ?_
    simp only [stepE]
    rw [len_rows hx (by simp [opd, upd])]
    refine wpOps_step rfl ?_
    simp only [stepE, evVal, opd]
    refine wpOps_nil (wpC_block (wpC_loop (fun n st => ∃ i A, st = ⟨A, ⟨m.bl, m.bl.length⟩, [], none⟩ ∧ n = hs.length - i ∧ i ≤ hs.length ∧ A 0 = x ∧ A 1 = y ∧ A 12 = .int .i64 hs.length ∧ A 13 = .int .i64 i ∧ hs.take i = ht.take i) (fun n st hI => ?_) hs.length _ ?_))
    · obtain ⟨i, A, rfl, rfl, hi, a0, a1, a12, a13, htk⟩ := hI
      refine wpC_seq (wpC_reg (wpOps_step rfl ?_))
      simp only [stepE, evVal, opd, a13, a12, binE, binInt, ↓reduceIte, Option.map_some]
      refine wpOps_nil (wpC_seq (wpC_cond (t := decide ((i : Int) < hs.length)) (by simp [opd, upd]) (fun hlt => ?_) (fun hge => ?_)))
      · have hil : i < hs.length := by simpa using hlt
        refine wpC_skip ?_
        simp only [thenE]
        refine wpC_seq (wpC_block (wpC_seq (wpC_reg (wpOps_step rfl ?_))))
        simp only [stepE, evVal, opd, upd, a13, Nat.reduceEqDiff, ↓reduceIte]
        refine wpOps_step rfl ?_
        simp only [stepE, evVal, opd, upd, Nat.reduceEqDiff, ↓reduceIte]
        refine wpOps_nil (wpC_seq (wpC_regD ⟨rfl, rfl, rfl, rfl⟩ ?_))
        refine wpD_float rfl ?_
        simp only [stepE, evVal, opd, upd, a0, Nat.reduceEqDiff, ↓reduceIte]
        refine wpD_float rfl ?_
        simp only [stepE, evVal, opd, upd, Nat.reduceEqDiff, ↓reduceIte]
        obtain ⟨ax, cx, ex, hxe, hox, hgx⟩ := row_get hx (i := i) (by simpa using hil)
        obtain ⟨ay, cy, ey, hye, hoy, hgy⟩ := row_get hy (i := i) (by simp; omega)
        refine wpD_float rfl ?_
        simp only [stepE, evVal, opd, upd, Nat.reduceEqDiff, ↓reduceIte, hxe, List.length_map]
        rw [if_pos ⟨by omega, by omega⟩]
        refine wpD_float (by simpa only [floatOk, opd, upd, ↓reduceIte, Ad.plus, oldAd] using hox) ?_
        simp only [stepE, evVal, opd, upd, ↓reduceIte, Int.toNat_natCast]
        rw [show Mem.getN G ⟨m.bl, m.bl.length⟩ (ax.plus (i * 18)) 18 = _ from hgx]
        simp only [Option.map_some]
        refine wpD_float rfl ?_
        simp only [stepE, evVal, opd, upd, a1, Nat.reduceEqDiff, ↓reduceIte]
        refine wpD_float rfl ?_
        simp only [stepE, evVal, opd, upd, Nat.reduceEqDiff, ↓reduceIte]
        refine wpD_float rfl ?_
        simp only [stepE, evVal, opd, upd, Nat.reduceEqDiff, ↓reduceIte, hye, List.length_map]
        rw [if_pos ⟨by omega, by omega⟩]
        refine wpD_float (by simpa only [floatOk, opd, upd, ↓reduceIte, Ad.plus, oldAd] using hoy) ?_
        simp only [stepE, evVal, opd, upd, ↓reduceIte, Int.toNat_natCast]
        rw [show Mem.getN G ⟨m.bl, m.bl.length⟩ (ay.plus (i * 18)) 18 = _ from hgy]
        simp only [Option.map_some]
        refine wpD_float rfl ?_
        simp only [stepE, evVal, opd, upd, Nat.reduceEqDiff, ↓reduceIte, binE, List.getElem_map]
        rw [eq_host hs[i] (ht[i]'(by omega)) (h1 _ (List.getElem_mem hil)) (h2 _ (List.getElem_mem (by omega)))]
        simp only [Option.map_some]
        refine wpD_nil ⟨Nat.le_refl _, ?_⟩
        have hit : i < ht.length := by omega
        refine wpC_cond (t := !decide (hs[i] = ht[i])) (by simp [opd, upd]) (fun hne => ?_) (fun heq2 => ?_)
        · refine wpC_seq (wpC_reg (wpOps_step rfl ?_))
          simp only [stepE, evVal, opd]
          refine wpOps_nil (wpC_ret ?_)
          simp only [thenE, againE, blockE]
          refine ⟨rfl, [.bool (decide (hs = ht))], ?_, ?_⟩
          · have : decide (hs = ht) = false := decide_eq_false fun e => by
              subst e
              simp at hne
            simp only [F21, resultsE, resE, upd, ↓reduceIte, this]
          · simp only [oneE, leave_same' m (.bool (decide (hs = ht))) rfl]
        · refine wpC_skip ?_
          simp only [thenE, againE, blockE]
          refine wpC_reg (wpOps_step rfl ?_)
          simp only [stepE, evVal, opd, upd, a13, Nat.reduceEqDiff, ↓reduceIte, binE, binInt, Option.map_some]
          refine wpOps_step rfl ?_
          simp only [stepE, evVal, opd, upd, Nat.reduceEqDiff, ↓reduceIte]
          refine wpOps_nil ?_
          have hw : IntKind.i64.wrap ((i : Int) + 1) = ((i + 1 : Nat) : Int) := wrap_ok (by omega) (by omega)
          have he : hs[i] = ht[i] := by simpa using heq2
          refine ⟨hs.length - (i + 1), by omega, i + 1, _, rfl, rfl, by omega, by simp [upd, a0, hxe], by simp [upd, a1, hye], by simp [upd, a12], by simp [upd, hw], ?_⟩
          rw [List.take_succ_eq_append_getElem hil, List.take_succ_eq_append_getElem hit, htk, he]
      · have hie : i = hs.length := by
          have : ¬ ((i : Int) < hs.length) := by simpa using hge
          omega
        refine wpC_exit ?_
        simp only [thenE, againE, blockE, ↓reduceIte]
        refine wpC_seq (wpC_reg (wpOps_step rfl ?_))
        simp only [stepE, evVal, opd]
        refine wpOps_nil (wpC_ret ⟨rfl, [.bool (decide (hs = ht))], ?_, ?_⟩)
        · have : decide (hs = ht) = true := by
            subst hie
            rw [List.take_length] at htk
            rw [hlen, List.take_length] at htk
            exact decide_eq_true htk
          simp only [F21, resultsE, resE, upd, ↓reduceIte, this]
        · simp only [oneE, leave_same' m (.bool (decide (hs = ht))) rfl]
    · refine ⟨0, _, rfl, by omega, by omega, ?_, ?_, ?_, ?_, rfl⟩ <;> simp [upd, argsE]
end Go.Proofs.YtjomofcdanpdgadGreatDoor.recordUnlike
