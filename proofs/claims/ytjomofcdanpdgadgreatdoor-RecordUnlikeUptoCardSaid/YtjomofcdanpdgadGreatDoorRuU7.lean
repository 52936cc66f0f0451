/- A part of the proof of the statement that this claim hands in: what single functions come to. There are no conditions. -/
import Derived.Test.YtjomofcdanpdgadGreatDoorRuU6
set_option linter.unusedSectionVars false
set_option linter.unusedVariables false
set_option linter.unusedSimpArgs false
namespace Go.Proofs.YtjomofcdanpdgadGreatDoor.recordUnlike
open Go.Ev hiding Comes
section
variable {G : Globs}

def hostSh : Sh := .struct [.int .i64, .str, .arr 16 (.int .u8)]
def pathSh : Sh := .struct [.int .i64, .slice hostSh, .struct [.str, hostSh]]
def recSh : Sh := .struct [pathSh, .struct [.int .i64, .bool, .str]]
def optsSh : Sh := .struct [.bool, .int .i64, .int .i64, .bool, .int .i64, .bool, .str, .bool, .str]
def envSh : Sh := .struct [hostSh, hostSh, .str, .bool, .int .i64, pathSh, optsSh, .slice recSh, .bool, .slice (.int .u8)]

theorem flat_ints {N : Nat} {m : Mem} : ∀ (cs : List (List EV)), (∀ c ∈ cs, Sits N m (.int .u8) c ∧ c.length = (Sh.int IntKind.u8).size) → ∃ l : List Int, cs.flatten = l.map (.int .u8 ·) ∧ l.length = cs.length ∧ ∀ n ∈ l, (Lit.int .u8 n).wf = true
  | [], _ => ⟨[], rfl, rfl, by simp⟩
  | c :: cs, h => by
    obtain ⟨n, rfl, hn⟩ := (h c (List.mem_cons_self ..)).1
    obtain ⟨l, h1, h2, h3⟩ := flat_ints cs fun c hc => h c (List.mem_cons_of_mem _ hc)
    exact ⟨n :: l, by simp [h1], by simp [h2], by
      intro x hx
      rcases List.mem_cons.1 hx with rfl | hx
      · exact hn
      · exact h3 x hx⟩

theorem sits_host {N : Nat} {m : Mem} {xs : List EV} (h : Sits N m hostSh xs) : ∃ d : HostD, xs = hostC d ∧ HostOk d ∧ d.name.length ≤ N := by
  obtain ⟨_, _, rfl, _, ⟨k, rfl, _⟩, _, _, rfl, _, ⟨s, rfl, hs⟩, _, _, rfl, _, ⟨cs, rfl, hl, hc⟩, rfl⟩ := h
  obtain ⟨l, e, hl2, _⟩ := flat_ints cs hc
  exact ⟨⟨k, s, l⟩, by simp [hostC, e], by simp [HostOk, hl2, hl], hs⟩

/-- Rows of a shape, each as data. -/
theorem sits_rows {N : Nat} {m : Mem} {e : Sh} {D : Type} {R : List EV → D → Prop} (hR : ∀ c, Sits N m e c → ∃ d, R c d) : ∀ (cs : List (List EV)), (∀ c ∈ cs, Sits N m e c ∧ c.length = e.size) → ∃ ds : List D, ds.length = cs.length ∧ ∀ (i : Nat) (d : D), ds[i]? = some d → ∃ c, cs[i]? = some c ∧ R c d
  | [], _ => ⟨[], rfl, by simp⟩
  | c :: cs, h => by
    obtain ⟨d, hd⟩ := hR c (h c (List.mem_cons_self ..)).1
    obtain ⟨ds, h1, h2⟩ := sits_rows hR cs fun c hc => h c (List.mem_cons_of_mem _ hc)
    refine ⟨d :: ds, by simp [h1], fun i x hx => ?_⟩
    cases i with
    | zero => simp at hx; subst hx; exact ⟨c, rfl, hd⟩
    | succ i => simpa using h2 i x (by simpa using hx)

theorem flat_get {esz : Nat} : ∀ {cs : List (List EV)} {i : Nat} {r : List EV}, (∀ c ∈ cs, c.length = esz) → cs[i]? = some r → Sub cs.flatten (i * esz) esz r
  | [], _, _, _, h => by simp at h
  | c :: cs, 0, r, hl, h => by
    simp at h
    subst h
    have := hl c (List.mem_cons_self ..)
    rw [Nat.zero_mul]
    exact sub_here this
  | c :: cs, i + 1, r, hl, h => by
    have h1 := hl c (List.mem_cons_self ..)
    have := flat_get (cs := cs) (fun c hc => hl c (List.mem_cons_of_mem _ hc)) (by simpa using h)
    rw [Nat.succ_mul, Nat.add_comm]
    exact sub_skip h1 this

theorem getN_ro {m : Mem} {b : Nat} {row ds : List EV} {off n : Nat} (h : m.bl[b]? = some (.cells row 0 false)) (hs : Sub row off n ds) : m.getN G ⟨.mem b 0, off⟩ n = some ds := by
  obtain ⟨h1, h2⟩ := hs
  unfold Mem.getN
  split
  · rename_i h0
    subst h0
    simp at h2
    rw [h2]
  · simp only [Mem.row, h, if_true, Option.bind_some, if_pos h1, h2]

/-- A slice of a shape: its rows. -/
theorem sits_slice {N : Nat} {m : Mem} {e : Sh} {xs : List EV} (h : Sits N m (.slice e) xs) : ∃ (v : EV) (cs : List (List EV)), xs = [v] ∧ cs.length ≤ N ∧ RowsAt G m e.size v cs ∧ ∀ c ∈ cs, Sits N m e c ∧ c.length = e.size := by
  rcases h with rfl | ⟨b, len, cs, rfl, rfl, hN, hb, hc⟩
  · exact ⟨_, [], rfl, Nat.zero_le _, .inl ⟨_, rfl, rfl⟩, by simp⟩
  · refine ⟨_, cs, rfl, hN, .inr ⟨_, _, _, rfl, fun hne => ?_, fun i r hi => ?_⟩, hc⟩
    · rcases hb with hb | hb
      · exact absurd (List.length_eq_zero_iff.1 hb) hne
      · simp only [oldAd, decide_eq_true_eq]
        exact (List.getElem?_eq_some_iff.1 hb).1
    · have hil := (List.getElem?_eq_some_iff.1 hi).1
      rcases hb with hb | hb
      · omega
      · have := flat_get (esz := e.size) (fun c hc' => (hc c hc').2) hi
        simp only [Ad.plus, Nat.zero_add]
        exact getN_ro hb this

theorem rows_map {m : Mem} {v : EV} {esz : Nat} {cs : List (List EV)} {D : Type} {f : D → List EV} {ds : List D} (hl : ds.length = cs.length) (h : ∀ (i : Nat) (d : D), ds[i]? = some d → ∃ c, cs[i]? = some c ∧ c = f d) : cs = ds.map f := by
  apply List.ext_getElem?
  intro i
  rw [List.getElem?_map]
  cases hd : ds[i]? with
  | none =>
    rw [List.getElem?_eq_none_iff] at hd
    rw [List.getElem?_eq_none (by omega)]
    rfl
  | some d =>
    obtain ⟨c, h1, rfl⟩ := h i d hd
    rw [h1]
    rfl

theorem sits_path {m : Mem} {xs : List EV} (h : Sits 1048576 m pathSh xs) : ∃ d : PathD, PathAt G m xs d ∧ d.loc.length ≤ 1048576 ∧ (∀ h ∈ d.route, h.name.length ≤ 1048576) ∧ d.route.length ≤ 1048576 := by
  obtain ⟨_, _, rfl, _, ⟨k, rfl, _⟩, _, _, rfl, _, hs, _, _, rfl, _, hbox, rfl⟩ := h
  obtain ⟨v, cs, rfl, hN, hr, hc⟩ := sits_slice (G := G) hs
  obtain ⟨_, _, rfl, _, ⟨loc, rfl, hloc⟩, _, _, rfl, _, hh, rfl⟩ := hbox
  obtain ⟨hd, rfl, hok, _⟩ := sits_host hh
  obtain ⟨ds, hl, hx⟩ := sits_rows (R := fun c (d : HostD) => c = hostC d ∧ HostOk d ∧ d.name.length ≤ 1048576) (fun c hc => let ⟨d, e, o⟩ := sits_host hc; ⟨d, e, o⟩) cs hc
  have e := rows_map (m := m) (v := v) (esz := 18) (f := hostC) hl fun i d hi => let ⟨c, h1, h2, _⟩ := hx i d hi; ⟨c, h1, h2⟩
  refine ⟨⟨k, ds, loc, hd⟩, ⟨v, by simp [pathC, boxC], by rw [← e]; exact hr, hok, fun h hh => ?_, by simp only [hl]; omega⟩, hloc, fun h hh => ?_, by simp only [hl]; exact hN⟩
  · obtain ⟨i, hi, rfl⟩ := List.getElem_of_mem hh
    obtain ⟨c, _, _, o, _⟩ := hx i _ (List.getElem?_eq_getElem hi)
    exact o
  · obtain ⟨i, hi, rfl⟩ := List.getElem_of_mem hh
    obtain ⟨c, _, _, _, o⟩ := hx i _ (List.getElem?_eq_getElem hi)
    exact o

theorem sits_rec {m : Mem} {xs : List EV} (h : Sits 1048576 m recSh xs) : ∃ d : RecD, RecAt G m xs d := by
  obtain ⟨_, _, rfl, _, hp, _, _, rfl, _, hm, rfl⟩ := h
  obtain ⟨p, hp, _⟩ := sits_path (G := G) hp
  obtain ⟨rv, rfl, h1, h2⟩ := hp
  obtain ⟨_, _, rfl, _, ⟨a, rfl, _⟩, _, _, rfl, _, ⟨b, rfl⟩, _, _, rfl, _, ⟨s, rfl, _⟩, rfl⟩ := hm
  exact ⟨⟨p, ⟨a, b, s⟩⟩, rv, by simp [recC, markC], rv, rfl, h1, h2⟩

theorem byte_rows : ∀ (l : List Int), (∀ n ∈ l, (Lit.int .u8 n).wf = true) → ∃ s : List UInt8, l.map (.int .u8 ·) = bytesE s ∧ s.length = l.length
  | [], _ => ⟨[], rfl, rfl⟩
  | n :: l, h => by
    obtain ⟨s, h1, h2⟩ := byte_rows l fun n hn => h n (List.mem_cons_of_mem _ hn)
    have hn := h n (List.mem_cons_self ..)
    have hb : 0 ≤ n ∧ n < 256 := by
      have e1 : IntKind.u8.min = 0 := by decide
      have e2 : IntKind.u8.max = 255 := by decide
      simp only [Lit.wf, e1, e2] at hn
      simp at hn
      omega
    refine ⟨UInt8.ofNat n.toNat :: s, ?_, by simp [h2]⟩
    simp only [List.map_cons, bytesE, byteE] at h1 ⊢
    rw [h1]
    congr 2
    rw [UInt8.toNat_ofNat']
    omega

theorem sits_env {m : Mem} {xs : List EV} (h : Sits 1048576 m envSh xs) : ∃ d : EnvD, EnvAt G m xs d ∧ Bnd d := by
  obtain ⟨_, _, rfl, _, hh, _, _, rfl, _, hp, _, _, rfl, _, ⟨user, rfl, huser⟩, _, _, rfl, _, ⟨ext, rfl⟩, _, _, rfl, _, ⟨time, rfl, _⟩, _, _, rfl, _, hfrom, _, _, rfl, _, hopts, _, _, rfl, _, hto, _, _, rfl, _, ⟨mark, rfl⟩, _, _, rfl, _, hbody, rfl⟩ := h
  obtain ⟨helo, rfl, k1, hname⟩ := sits_host hh
  obtain ⟨peer, rfl, k2, _⟩ := sits_host hp
  obtain ⟨p, ⟨rv, rfl, q1, q2⟩, q3, q4, q5⟩ := sits_path (G := G) hfrom
  obtain ⟨_, _, rfl, _, ⟨b1, rfl⟩, _, _, rfl, _, ⟨i1, rfl, _⟩, _, _, rfl, _, ⟨i2, rfl, _⟩, _, _, rfl, _, ⟨b2, rfl⟩, _, _, rfl, _, ⟨i3, rfl, _⟩, _, _, rfl, _, ⟨b3, rfl⟩, _, _, rfl, _, ⟨s1, rfl, _⟩, _, _, rfl, _, ⟨b4, rfl⟩, _, _, rfl, _, ⟨s2, rfl, _⟩, rfl⟩ := hopts
  obtain ⟨tv, cs, rfl, hN, hr, hc⟩ := sits_slice (G := G) hto
  obtain ⟨ds, hl, hx⟩ := sits_rows (R := fun c (d : RecD) => RecAt G m c d) (fun c hc => sits_rec hc) cs hc
  obtain ⟨bv, bs, rfl, hN2, hr2, hc2⟩ := sits_slice (G := G) hbody
  obtain ⟨l, e1, e2, e3⟩ := flat_ints bs hc2
  obtain ⟨s, e4, e5⟩ := byte_rows l e3
  refine ⟨⟨helo, peer, user, ext, time, p, ⟨b1, i1, i2, b2, i3, b3, s1, b4, s2⟩, ds, mark, s⟩, ⟨rv, tv, bv, by simp [envC, optsC], k1, k2, ⟨rv, rfl, q1, q2⟩, ⟨cs, hr, hl.symm, hx⟩, ?_, by simp only [hl]; omega, by simp only [e5, e2]; omega⟩, hname, huser, q3, q4, by simp only [hl]; exact hN, by simp only [e5, e2]; exact hN2, q5⟩
  rcases hr2 with ⟨e, rfl, rfl⟩ | ⟨a, cap, e, rfl, _, hg⟩
  · refine .inl ⟨e, rfl, ?_⟩
    have : s.length = 0 := by rw [e5, e2]; rfl
    exact List.length_eq_zero_iff.1 this
  · refine .inr ⟨a, cap, e, by simp only [e5, e2], ?_⟩
    simp only [e5, e2]
    by_cases hb : bs = []
    · subst hb
      have : s = [] := List.length_eq_zero_iff.1 (by rw [e5, e2]; rfl)
      subst this
      rfl
    · have := whole_rows (by decide) bs hb hg
      rw [e1, e4] at this
      simpa [Sh.size] using this

end

theorem law : ∀ (m : Mem) (xs : List EV), RO m → SitArgs 1048576 m [envSh, .int .i64] xs → ∃ m' p', Go.Ev.Comes T G 3 xs m none ⟨.val (.bool true), m', p'⟩ := by
  intro m xs _ h
  obtain ⟨y1, _, rfl, h1, l1, y2, _, rfl, h2, l2, rfl⟩ := h
  obtain ⟨a, ha, hb⟩ := sits_env (G := G) h1
  obtain ⟨n, rfl, _⟩ := h2
  exact ⟨m, none, c3 m y1 n a ha hb⟩
end Go.Proofs.YtjomofcdanpdgadGreatDoor.recordUnlike
