/- The engine, part 97: regions that lay blocks of known content at any time ahead of the cut: every step keeps what is done so far. There are no conditions but those that lateOk reckons. -/
import Derived.Test.YthmmoahdobpfoaaGreatDoorXEv96
set_option linter.unusedSectionVars false
set_option linter.unusedVariables false
set_option linter.unusedSimpArgs false
namespace Go.Ev
open Go.RowKit (Below)

section
variable {P : Program} {X : Fix} {call : CallE} {ops : Array Oper} {es : List EOper} {b : Nat → Nat → Bool} {q : Nat} {js : List Nat} {bs : List Blk} {rb : Nat} {fl : Nat → Bool} {f g : Nat → St} {Q : Exit → Act → World → Prop} {cs : List Frame}

theorem late_step (C : LCtx P X call ops es b q js bs rb fl f g) {L : Array Bool} {a : Act} {w : World} (hi : LInv X ops es q js bs rb fl f g b L a cs w) {k : Nat} {K : Act → World → Prop} (hready : k ∈ Region.ready .any ops L)
    (hK : ∀ a w, LInv X ops es q js bs rb fl f g b (L.setIfInBounds k true) a cs w → K a w) : wpOp P ops Q k K a w := by
  obtain ⟨_, hget⟩ := opersC_get C.hes
  rw [mem_ready] at hready
  obtain ⟨hLk, o, ho, hedge⟩ := hready
  obtain ⟨e, he, hoe⟩ := hget k o (by simpa using ho)
  obtain ⟨hop, hg, hdst, hde⟩ := operC_spec hoe
  have hkn : k < ops.size := (Array.getElem?_eq_some_iff.1 ho).1
  have hLk : L.getD k false = false := by
    have h1 : k < L.size := by rw [hi.size]; exact hkn
    simpa [h1] using hLk
  have hb : ∀ i, i < ops.size → b k i = true → L.getD i false = true := fun i hin hbi => by
    obtain ⟨x, hx, hbx, h⟩ := C.hD.clos k o i ho hin hbi
    have hxL := hedge x hx hbx
    rcases h with rfl | h
    · exact hxL
    · exact hi.down i x.on hin (by have := C.hD.edges k o ho x hx hbx; omega) hxL h
  obtain ⟨p, A, j, hpn', hp, hpq, hA1, hA2, hs⟩ := hi.rel
  have hag := agree_of_reads (e := e) (A := lA q f g k) (B := A) fun t ht => l_ready C hi.down hA1 hA2 he hLk hb ht
  -- nothing behind the cut is done as long as something ahead of it that is not calm is not
  have hahead : k < q → e.op.calm = false → p ≤ q := fun hkq hcalm => by
    rcases Nat.lt_or_ge q p with h | h
    · exfalso
      obtain ⟨i, ei, hei, hfi, h1, h2⟩ := hpq h
      have hLi := (hp i ei hei hfi).2 h2
      have := hi.down k i hkn (C.lt hei) hLi (C.hD.tail k i e ei he hei (by omega) h1 hcalm (C.pin i ei hei hfi).2)
      rw [hLk] at this
      cases this
    · exact h
  have hsetk : ∀ c, c ≠ k → (L.setIfInBounds k true).getD c false = L.getD c false := fun c hc => by rw [getD_set_ne false (fun e => hc e.symm)]
  by_cases hjs : k ∈ js
  · -- a late block
    obtain ⟨i, hi'⟩ := C.mem hjs
    obtain ⟨hkq, hfk, e2, x, o2, he2, hez, hegu, hbi, ho2, hot⟩ := C.late i k hi'
    rw [he] at he2
    cases he2
    rw [ho] at ho2
    cases ho2
    have hpq' : p ≤ q := hahead hkq (lateB_calm hez)
    have hSp : lS bs js rb q f g p (fun k => L.getD k false) = fillS (FLf bs js rb fun k => L.getD k false) (f p) := by unfold lS; rw [if_pos hpq']
    have hSp' : lS bs js rb q f g p (fun c => (L.setIfInBounds k true).getD c false) = fillS (FLf bs js rb fun c => (L.setIfInBounds k true).getD c false) (f p) := by unfold lS; rw [if_pos hpq']
    have hib : i < bs.length := (List.getElem?_eq_some_iff.1 hbi).1
    have hdead := C.dead p hpq' i hib
    have hlen : rb + i < (f p).m.bl.length := (List.getElem?_eq_some_iff.1 hdead).1
    have hr : (fill (FLf bs js rb fun k => L.getD k false) (f p).m).bl[rb + i]? = some (.dead 0) := by
      rw [fill_get, hdead, FL_at hi' hbi, if_neg (by rw [hLk]; simp)]
      rfl
    have hnew : (fill (FLf bs js rb fun c => (L.setIfInBounds k true).getD c false) (f p).m).bl = (fill (FLf bs js rb fun k => L.getD k false) (f p).m).bl.set (rb + i) x :=
      FL_set C.nodup hi' hbi hlen (fun c hc => hsetk c hc) (getD_set_self (by rw [hi.size]; exact hkn))
    have hmem : fill (FLf bs js rb fun c => (L.setIfInBounds k true).getD c false) (f p).m = ⟨(fill (FLf bs js rb fun k => L.getD k false) (f p).m).bl.set (rb + i) x, (f p).m.low⟩ := by
      rw [← hnew]; rfl
    rw [hSp] at hs
    have hopc : opC P o.op = some e.op := by
      cases hn : opC P o.op with
      | none =>
        have : e.op = .stuck := by simpa [opS, hn] using hop.symm
        rw [this] at hez
        cases hez
      | some y => simpa [opS, hn] using hop
    obtain ⟨j', v, w', hrun, hext, hmr, hvr⟩ := late_run hs.mem hot hez hopc hr (f p).m.low
    have hs2 := hs.step hext hmr
    have hrun' : (execOp a.eval o).run P w = .ok (.value v) w' := hrun a.eval o rfl
    unfold wpOp
    rw [ho]
    simp only
    rw [wanted_rel hs.fr hg, hegu]
    have hw1 : wantedE A none = true := rfl
    split
    · left
      unfold Oper.wp
      rw [hrun']
      apply hK
      refine hi.more C he hLk hb hp hpq hA1 hA2 (p' := p) (by rw [hfk]; rfl) hpn' (A' := pA A e.dst (lateV e.op (rb + i))) (j' := j') (fun t' => ?_) ?_
      · have hAk : lA q f g (k + 1) = ((f k).put e.dst (lateV e.op (rb + i))).A := by
          unfold lA
          rw [if_pos (by omega), C.preL i k e hi' he]
        exact pA_match (s := f k) hAk t'
      · rw [hSp', ← wA_put, hde]
        refine SRel.put ?_ hdst ?_
        · have e1 : (wA (fillS (FLf bs js rb fun c => (L.setIfInBounds k true).getD c false) (f p)) A) = { wA (fillS (FLf bs js rb fun k => L.getD k false) (f p)) A with m := ⟨(fill (FLf bs js rb fun k => L.getD k false) (f p).m).bl.set (rb + i) x, (f p).m.low⟩ } := by
            rw [← hmem]; rfl
          rw [e1]
          exact hs2
        · show VRel j' (fill (FLf bs js rb fun c => (L.setIfInBounds k true).getD c false) (f p).m) _ _
          rw [hmem]
          exact hvr
    · rename_i hw
      exact absurd hw1 hw
  · -- what it lays is not known
    have hLL : ∀ c ∈ js, (fun c => (L.setIfInBounds k true).getD c false) c = (fun k => L.getD k false) c := fun c hc => hsetk c fun e' => hjs (e' ▸ hc)
    have hstep := lT_step C he hjs fun k => L.getD k false
    have hSn : lS bs js rb q f g (k + 1) (fun c => (L.setIfInBounds k true).getD c false) = lU bs js rb q f g k (fun k => L.getD k false) := by rw [lS_congr hLL, lS_next]
    have hSs : lS bs js rb q f g p (fun c => (L.setIfInBounds k true).getD c false) = lS bs js rb q f g p (fun k => L.getD k false) := lS_congr hLL
    have hTA := lT_A C k fun k => L.getD k false
    have hUA : (lU bs js rb q f g k fun k => L.getD k false).A = lA q f g (k + 1) := lU_A k _
    have hpnS : (lS bs js rb q f g p fun k => L.getD k false).p = none := by
      unfold lS
      split
      · exact C.fp p (by assumption)
      · exact C.gp p (by omega) hpn'
    -- where an operation that does not float stands
    have hanchor : fl k = false → SRel X j (wA (lT bs js rb q f g k (fun k => L.getD k false)) A) a cs w := fun hf => by
      have hpk : p ≤ k := by
        rcases Nat.lt_or_ge k p with h | h
        · have := (hp k e he hf).2 h
          rw [hLk] at this
          cases this
        · exact h
      have hfloat : ∀ i ei, es[i]? = some ei → p ≤ i → i < k → fl i = true := fun i ei hei h1 h2 => by
        cases hfi : fl i with
        | true => rfl
        | false =>
          have := hb i (by omega) (C.hD.anch i k ei e hei he h2 hfi hf)
          have := (hp i ei hei hfi).1 this
          omega
      unfold lT
      by_cases hkq : k < q
      · rw [if_pos hkq]
        have hSp : lS bs js rb q f g p (fun k => L.getD k false) = fillS (FLf bs js rb fun k => L.getD k false) (f p) := by unfold lS; rw [if_pos (by omega)]
        rw [hSp] at hs
        obtain ⟨m1, m2⟩ := preMD C hpk (by omega) hfloat
        have : (wA (fillS (FLf bs js rb fun k => L.getD k false) (f k)) A) = wA (fillS (FLf bs js rb fun k => L.getD k false) (f p)) A := by
          show St.mk A (fill _ (f k).m) (f k).d (f k).p = St.mk A (fill _ (f p).m) (f p).d (f p).p
          rw [m1, m2, C.fp k (by omega), C.fp p (by omega)]
        rw [this]
        exact hs
      · rw [if_neg hkq]
        rcases Nat.lt_or_ge q p with h | h
        · have hSp : lS bs js rb q f g p (fun k => L.getD k false) = g p := by unfold lS; rw [if_neg (by omega)]
          rw [hSp] at hs
          obtain ⟨m1, m2⟩ := postMD C hpk (by omega) (by omega) hfloat
          have : (wA (g k) A) = wA (g p) A := by
            show St.mk A (g k).m (g k).d (g k).p = St.mk A (g p).m (g p).d (g p).p
            rw [m1, m2, C.gp k (by omega) (by omega), C.gp p (by omega) hpn']
          rw [this]
          exact hs
        · have hSp : lS bs js rb q f g p (fun k => L.getD k false) = fillS (FLf bs js rb fun k => L.getD k false) (f p) := by unfold lS; rw [if_pos h]
          rw [hSp] at hs
          obtain ⟨m1, m2⟩ := preMD C h (Nat.le_refl _) fun i ei hei h1 h2 => hfloat i ei hei h1 (by omega)
          obtain ⟨m3, m4⟩ := postMD C (c := q) (d := k) (by omega) (Nat.le_refl _) (by omega) fun i ei hei h1 h2 => hfloat i ei hei (by omega) h2
          -- all late blocks are there
          have hall : ∀ c ∈ js, (fun k => L.getD k false) c = (fun _ => true) c := fun c hc => by
            obtain ⟨i, hi'⟩ := C.mem hc
            obtain ⟨hcq, _, e2, _, _, he2, hez, _⟩ := C.late i c hi'
            exact hb c (C.lt he2) (C.hD.tail c k e2 e he2 he (by omega) (by omega) (lateB_calm hez) (C.pin k e he hf).2)
          rw [FL_congr hall] at hs
          have hbl : (fill (FLf bs js rb fun _ => true) (f p).m).bl = (g k).m.bl := by rw [← m1, m3, C.cut]
          have h3 := hs.step (Ext.low j (m := fill (FLf bs js rb fun _ => true) (f p).m) (m' := (g k).m) hbl.symm) (hs.mem.low hbl.symm)
          have : (wA (g k) A) = { wA (fillS (FLf bs js rb fun _ => true) (f p)) A with m := (g k).m } := by
            show St.mk A (g k).m (g k).d (g k).p = St.mk A (g k).m (f p).d (f p).p
            rw [m4, C.gd, m2, C.gp k (by omega) (by omega), C.fp p h]
          rw [this]
          exact h3
    have fin : ∀ (v : EV) (s1 : St) (a' : Act) (w' : World) (j' : Inj) (v' : Value), lU bs js rb q f g k (fun k => L.getD k false) = s1.put e.dst v → s1.A = (lT bs js rb q f g k fun k => L.getD k false).A →
        (fl k = true → SRel X j' (wA (lS bs js rb q f g p (fun k => L.getD k false)) A) a' cs w' ∧ VRel j' (lS bs js rb q f g p (fun k => L.getD k false)).m v v') → (fl k = false → SRel X j' (wA (s1) A) a' cs w' ∧ VRel j' s1.m v v') → K (a'.put o.dst v') w' := by
      intro v s1 a' w' j' v' h1 h2 h3 h4
      apply hK
      refine hi.more C he hLk hb hp hpq hA1 hA2 rfl hpn' (A' := pA A e.dst v) (j' := j') (fun t => pA_match (s := s1) (by rw [← hUA, h1]) t) ?_
      by_cases hf : fl k = true
      · obtain ⟨k2, k3⟩ := h3 hf
        rw [if_pos hf, hSs, ← wA_put, hde]
        exact k2.put hdst k3
      · have hf' : fl k = false := by simpa using hf
        obtain ⟨k2, k3⟩ := h4 hf'
        rw [if_neg hf, hSn]
        have e1 : (wA (lU bs js rb q f g k (fun k => L.getD k false)) (pA A e.dst v)) = (wA (s1) A).put e.dst v := by
          rw [wA_put, h1]
          cases e.dst <;> rfl
        rw [e1, hde]
        exact k2.put hdst k3
    unfold wpOp
    rw [ho]
    simp only
    rw [wanted_rel hs.fr hg, show (wA (lS bs js rb q f g p fun k => L.getD k false) A).A = A from rfl, ← hag.2]
    have hagT : Agree e.op.opds (lT bs js rb q f g k fun k => L.getD k false).A A := by rw [hTA]; exact hag.1
    unfold stepD at hstep
    rw [hTA] at hstep
    split
    · rename_i hw
      rw [if_pos hw] at hstep
      left
      unfold Oper.wp
      by_cases hf : fl k = true
      · rw [if_pos hf] at hstep
        split at hstep
        case isFalse => cases hstep
        rename_i hfok
        obtain ⟨r, hr, hr'⟩ := Option.map_eq_some_iff.1 hstep
        obtain ⟨hfl1, hfl2⟩ := C.float k e he hjs hf
        -- the same answer at the memory that is
        have hval : evVal X.G e.op A (lS bs js rb q f g p fun k => L.getD k false).m = some (r.1, (lS bs js rb q f g p fun k => L.getD k false).m) := by
          rw [← evVal_agree hag.1]
          have hrows : ∀ ad : Ad, e.op.calm = false → oldAd rb ad = true → (lT bs js rb q f g k fun k => L.getD k false).m.row X.G ad.base = (lS bs js rb q f g p fun k => L.getD k false).m.row X.G ad.base := by
            intro ad hnc hfok
            have hkq : k < q := hfl2 hnc
            have hpq' : p ≤ q := hahead hkq hnc
            have h1 : lT bs js rb q f g k (fun k => L.getD k false) = fillS (FLf bs js rb fun k => L.getD k false) (f k) := by unfold lT; rw [if_pos hkq]
            have h2 : lS bs js rb q f g p (fun k => L.getD k false) = fillS (FLf bs js rb fun k => L.getD k false) (f p) := by unfold lS; rw [if_pos hpq']
            rw [h1, h2]
            unfold oldAd at hfok
            unfold Mem.row
            cases hbase : ad.base with
            | glob g => rfl
            | weak wk => rfl
            | mem bb g =>
              rw [hbase] at hfok
              simp only [decide_eq_true_eq] at hfok
              have e1 : (fillS (FLf bs js rb fun k => L.getD k false) (f k)).m.bl[bb]? = (fillS (FLf bs js rb fun k => L.getD k false) (f p)).m.bl[bb]? := by
                show (fill _ (f k).m).bl[bb]? = (fill _ (f p).m).bl[bb]?
                rw [fill_get, fill_get, C.old k (by omega) bb hfok, C.old p hpq' bb hfok]
              simp only [e1]
          by_cases hcalm : e.op.calm = true
          · exact (calm_free hcalm hr).2 _
          · have hnc : e.op.calm = false := by simpa using hcalm
            cases hop2 : e.op with
            | load n x =>
              rw [hop2] at hr hfok
              simp only [floatOk] at hfok
              simp only [evVal] at hr ⊢
              split at hr
              case h_2 => cases hr
              rename_i ad had
              rw [had] at hfok
              simp only at hfok
              have hrow := hrows ad hnc hfok
              cases n with
              | none =>
                simp only [Mem.get] at hr ⊢
                obtain ⟨y, hy, rfl⟩ := Option.map_eq_some_iff.1 hr
                rw [hrow] at hy
                rw [hy]
                rfl
              | some n =>
                obtain ⟨y, hy, rfl⟩ := Option.map_eq_some_iff.1 hr
                have hy' : Mem.getN X.G (lS bs js rb q f g p fun k => L.getD k false).m ad n = some y := by
                  unfold Mem.getN at hy ⊢
                  rw [← hrow]
                  exact hy
                simp only [hy', Option.map_some]
            | toStr x =>
              rw [hop2] at hr hfok
              simp only [floatOk] at hfok
              simp only [evVal] at hr ⊢
              split at hr
              · cases hr; rfl
              · rename_i ad n _ _ had
                rw [had] at hfok
                simp only at hfok
                have hrow := hrows ad hnc hfok
                obtain ⟨y, hy, rfl⟩ := Option.map_eq_some_iff.1 hr
                have hy' : (Mem.getN X.G (lS bs js rb q f g p fun k => L.getD k false).m ad n).bind strE = some y := by
                  unfold Mem.getN at hy ⊢
                  rw [← hrow]
                  exact hy
                simp only [hy', Option.map_some]
              · cases hr
            | slArr n esz x lo hi =>
              rw [hop2] at hr hfok
              simp only [floatOk] at hfok
              simp only [evVal] at hr ⊢
              split at hr
              case h_2 => cases hr
              rename_i ad had
              rw [had] at hfok
              simp only at hfok
              have hrow := hrows ad hnc hfok
              rw [hrow] at hr
              split at hr
              case h_2 => cases hr
              rename_i h hh
              split at hr
              case h_2 => cases hr
              rename_i l hl
              split at hr
              case h_2 => cases hr
              rename_i cs hcs
              split at hr
              case isFalse => cases hr
              rename_i hb
              cases hr
              simp only [hh, hl, hcs, if_pos hb]
            | _ => have hf2 := hfl1; rw [hop2] at hf2 hcalm; exact absurd hf2 (by simpa [EOp.floats] using hcalm)
        have hquiet : e.op.quiet = true := by
          have hf2 := hfl1
          cases hop2 : e.op <;> rw [hop2] at hf2 <;> first | rfl | (simp [EOp.floats, EOp.calm] at hf2; done)
        have hev : evOp call X.G e.op (wA (lS bs js rb q f g p (fun k => L.getD k false)) A) = some (.val r.1, wA (lS bs js rb q f g p (fun k => L.getD k false)) A) := by
          have hval' : evVal X.G e.op (wA (lS bs js rb q f g p fun k => L.getD k false) A).A (wA (lS bs js rb q f g p fun k => L.getD k false) A).m = some (r.1, (wA (lS bs js rb q f g p fun k => L.getD k false) A).m) := hval
          rw [evOp_quiet hquiet, hval']
          rfl
        rcases op_sound C.hc hs hop hev with ⟨_, v, w', j', hrun, hs1, hv⟩ | ⟨_, d, hrun, hx, hs1⟩ | ⟨_, g', args, hrun, hcall⟩ | ⟨hp', _⟩
        · have hk := fin r.1 (lT bs js rb q f g k fun k => L.getD k false) a w' j' v hr'.symm rfl (fun _ => ⟨hs1, hv⟩) (fun h => by rw [hf] at h; cases h)
          rcases hrun with hrun | ⟨hrun, rfl⟩
          · rw [hrun]; exact hk
          · rw [hrun]; exact hk
        · rw [hrun]
          exact fin r.1 (lT bs js rb q f g k fun k => L.getD k false) _ w j undef hr'.symm rfl (fun _ => ⟨hs1, by rw [hx]; exact undef_rel _ _⟩) (fun h => by rw [hf] at h; cases h)
        · rw [hrun]
          refine hcall.mono fun en w' hen => ?_
          obtain ⟨v, j', rfl, hs1, hv⟩ := hen
          exact fin r.1 (lT bs js rb q f g k fun k => L.getD k false) a w' j' v hr'.symm rfl (fun _ => ⟨hs1, hv⟩) (fun h => by rw [hf] at h; cases h)
        · rw [show (wA (lS bs js rb q f g p (fun k => L.getD k false)) A).p = (lS bs js rb q f g p fun k => L.getD k false).p from rfl, hpnS] at hp'
          cases hp'
      · rw [if_neg hf] at hstep
        have hf' : fl k = false := by simpa using hf
        split at hstep
        case h_2 => cases hstep
        rename_i v s1 hv
        have hfk : lU bs js rb q f g k (fun k => L.getD k false) = s1.put e.dst v := (Option.some.inj hstep).symm
        have hs' := hanchor hf'
        have hev := evOp_agree hagT hv
        have hs1A : s1.A = (lT bs js rb q f g k fun k => L.getD k false).A := evOp_A hv
        rcases op_sound C.hc hs' hop hev with ⟨_, v', w', j', hrun, hs1, hvr⟩ | ⟨_, d, hrun, hx, hs1⟩ | ⟨_, g', args, hrun, hcall⟩ | ⟨hp', _⟩
        · have hk := fin v s1 a w' j' v' hfk hs1A (fun h => absurd h hf) (fun _ => ⟨hs1, hvr⟩)
          rcases hrun with hrun | ⟨hrun, rfl⟩
          · rw [hrun]; exact hk
          · rw [hrun]; exact hk
        · rw [hrun]
          exact fin v s1 _ w j undef hfk hs1A (fun h => absurd h hf) (fun _ => ⟨hs1, by rw [hx]; exact undef_rel _ _⟩)
        · rw [hrun]
          refine hcall.mono fun en w' hen => ?_
          obtain ⟨v', j', rfl, hs1, hvr⟩ := hen
          exact fin v s1 a w' j' v' hfk hs1A (fun h => absurd h hf) (fun _ => ⟨hs1, hvr⟩)
        · have hTp : (lT bs js rb q f g k fun k => L.getD k false).p = none := by
            unfold lT
            split
            · exact C.fp k (by omega)
            · exact C.gp k (by omega) (by omega)
          rw [show (wA (lT bs js rb q f g k (fun k => L.getD k false)) A).p = (lT bs js rb q f g k fun k => L.getD k false).p from rfl, hTp] at hp'
          cases hp'
    · rename_i hw
      rw [if_neg hw] at hstep
      have hstep : lU bs js rb q f g k (fun k => L.getD k false) = (lT bs js rb q f g k fun k => L.getD k false).put e.dst undefE := by simpa using hstep.symm
      exact fin undefE (lT bs js rb q f g k fun k => L.getD k false) a w j undef hstep rfl (fun _ => ⟨hs, undef_rel _ _⟩) fun hf => ⟨hanchor hf, undef_rel _ _⟩
end
end Go.Ev
