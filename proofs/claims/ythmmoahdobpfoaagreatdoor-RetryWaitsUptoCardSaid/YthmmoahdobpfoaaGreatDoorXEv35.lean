/- The engine, part 35: functions of which a few answers are known, laid over a table one behind the other; what they answer was reckoned in the empty memory. There are no conditions. -/
import Derived.Test.YthmmoahdobpfoaaGreatDoorXEv25
set_option linter.unusedSimpArgs false
set_option linter.unusedSectionVars false
set_option linter.unusedVariables false
namespace Go.Ev

def intEq : Int → Int → Bool
  | .ofNat a, .ofNat b => Nat.beq a b
  | .negSucc a, .negSucc b => Nat.beq a b
  | _, _ => false
theorem intEq_ok : ∀ {a b : Int}, intEq a b = true → a = b
  | .ofNat a, .ofNat b, h => congrArg Int.ofNat (Nat.eq_of_beq_eq_true h)
  | .negSucc a, .negSucc b, h => congrArg Int.negSucc (Nat.eq_of_beq_eq_true h)
  | .ofNat _, .negSucc _, h => by cases h
  | .negSucc _, .ofNat _, h => by cases h
def textEq : List UInt8 → List UInt8 → Bool
  | [], [] => true
  | a :: as, b :: bs => bif Nat.beq a.toNat b.toNat then textEq as bs else false
  | _, _ => false
theorem textEq_ok : ∀ {a b : List UInt8}, textEq a b = true → a = b
  | [], [], _ => rfl
  | a :: as, b :: bs, h => by
    unfold textEq at h
    cases hb : Nat.beq a.toNat b.toNat with
    | false => rw [hb] at h; cases h
    | true =>
      rw [hb] at h
      rw [textEq_ok h, UInt8.toNat_inj.1 (Nat.eq_of_beq_eq_true hb)]
  | [], _ :: _, h => by cases h
  | _ :: _, [], h => by cases h
def ikEq (a b : IntKind) : Bool := decide (a = b)
/-- The same value, of those that lead nowhere; no other one is the same as anything. -/
def valEq : EV → EV → Bool
  | .bool a, .bool b => a == b
  | .int k a, .int k' b => bif intEq a b then ikEq k k' else false
  | .str a, .str b => textEq a b
  | .ptr none, .ptr none => true
  | .slice none a b c, .slice none a' b' c' => Nat.beq a a' && (Nat.beq b b' && Nat.beq c c')
  | .map none, .map none => true
  | _, _ => false
theorem valEq_ok {x y : EV} (h : valEq x y = true) : x = y := by
  unfold valEq at h
  split at h
  · rw [eq_of_beq h]
  · rename_i k a k' b
    cases hb : intEq a b with
    | false => rw [hb] at h; cases h
    | true =>
      rw [hb] at h
      have e : k = k' := of_decide_eq_true h
      rw [intEq_ok hb, e]
  · rw [textEq_ok h]
  · rfl
  · simp only [Bool.and_eq_true] at h
    rw [Nat.eq_of_beq_eq_true h.1, Nat.eq_of_beq_eq_true h.2.1, Nat.eq_of_beq_eq_true h.2.2]
  · rfl
  · cases h
def valsEq : List EV → List EV → Bool
  | [], [] => true
  | x :: xs, y :: ys => bif valEq x y then valsEq xs ys else false
  | _, _ => false
theorem valsEq_ok : ∀ {xs ys : List EV}, valsEq xs ys = true → xs = ys
  | [], [], _ => rfl
  | x :: xs, y :: ys, h => by
    unfold valsEq at h
    cases hb : valEq x y with
    | false => rw [hb] at h; cases h
    | true => rw [hb] at h; rw [valEq_ok hb, valsEq_ok h]
  | [], _ :: _, h => by cases h
  | _ :: _, [], h => by cases h
/-- An argument, or a part of an answer. -/
def argEq : EV → EV → Bool
  | .agg xs, .agg ys => valsEq xs ys
  | x, y => valEq x y
theorem argEq_ok {x y : EV} (h : argEq x y = true) : x = y := by
  unfold argEq at h
  split at h
  · rw [valsEq_ok h]
  · exact valEq_ok h
def argsEq : List EV → List EV → Bool
  | [], [] => true
  | x :: xs, y :: ys => bif argEq x y then argsEq xs ys else false
  | _, _ => false
theorem argsEq_ok : ∀ {xs ys : List EV}, argsEq xs ys = true → xs = ys
  | [], [], _ => rfl
  | x :: xs, y :: ys, h => by
    unfold argsEq at h
    cases hb : argEq x y with
    | false => rw [hb] at h; cases h
    | true => rw [hb] at h; rw [argEq_ok hb, argsEq_ok h]
  | [], _ :: _, h => by cases h
  | _ :: _, [], h => by cases h
/-- An answer. -/
def ansEq : EV → EV → Bool
  | .tuple xs, .tuple ys => argsEq xs ys
  | x, y => argEq x y
theorem ansEq_ok {x y : EV} (h : ansEq x y = true) : x = y := by
  unfold ansEq at h
  split at h
  · rw [argsEq_ok h]
  · exact argEq_ok h

/-- A few answers. -/
def few : List (List EV × EV) → List EV → Option EV
  | [], _ => none
  | (as, v) :: l, xs => bif argsEq xs as then some v else few l xs
def plainArgs (args : List EV) : Bool := args.all fun v => match v with | .agg cs => cs.all plainV | v => plainV v
/-- Did a run answer so, and does nothing lead into memory? -/
def answers (args : List EV) (v : EV) : Option CR → Bool
  | some ⟨.val u, _, _⟩ => bif ansEq u v then (bif plainArgs args then plainT v else false) else false
  | _ => false
theorem answers_ok {args : List EV} {v : EV} {r : Option CR} (h : answers args v r = true) : plainArgs args = true ∧ plainT v = true ∧ ∃ m p, r = some ⟨.val v, m, p⟩ := by
  unfold answers at h
  split at h
  · rename_i u m p
    cases h1 : ansEq u v with
    | false => rw [h1] at h; cases h
    | true =>
      rw [h1] at h
      cases h2 : plainArgs args with
      | false => rw [h2] at h; cases h
      | true =>
        rw [h2] at h
        exact ⟨rfl, h, m, p, by rw [ansEq_ok h1]⟩
  · cases h

theorem OrcRun.nil {T : FuncId → Option EFunc} {G : Globs} {f : FuncId} : OrcRun T G f (few []) := fun args v h => by cases h
theorem OrcRun.cons {T : FuncId → Option EFunc} {G : Globs} {f : FuncId} {as : List EV} {v : EV} {l : List (List EV × EV)} {k : Nat} (h : answers as v (evFunL T G k f as ⟨[], 0⟩ none) = true) (hl : OrcRun T G f (few l)) : OrcRun T G f (few ((as, v) :: l)) := by
  intro xs u hu
  unfold few at hu
  cases hb : argsEq xs as with
  | true =>
    rw [hb] at hu
    cases hu
    obtain ⟨h1, h2, m, p, e⟩ := answers_ok h
    rw [argsEq_ok hb]
    exact ⟨h1, h2, m, p, comes_of_run e⟩
  | false =>
    rw [hb] at hu
    exact hl xs u hu
/-- Of what is proved by any other way. -/
theorem OrcRun.cons' {T : FuncId → Option EFunc} {G : Globs} {f : FuncId} {as : List EV} {v : EV} {l : List (List EV × EV)} (hp : plainArgs as = true) (hv : plainT v = true) (h : ∃ m p, Comes T G f as ⟨[], 0⟩ none ⟨.val v, m, p⟩) (hl : OrcRun T G f (few l)) : OrcRun T G f (few ((as, v) :: l)) := by
  intro xs u hu
  unfold few at hu
  cases hb : argsEq xs as with
  | true =>
    rw [hb] at hu
    cases hu
    rw [argsEq_ok hb]
    exact ⟨hp, hv, h⟩
  | false =>
    rw [hb] at hu
    exact hl xs u hu

theorem OrcRun.all {T : FuncId → Option EFunc} {G : Globs} {f : FuncId} {k : Nat} : ∀ {l : List (List EV × EV)}, (l.all fun q => answers q.1 q.2 (evFunL T G k f q.1 ⟨[], 0⟩ none)) = true → OrcRun T G f (few l)
  | [], _ => OrcRun.nil
  | (as, v) :: l, h => by
    simp only [List.all_cons, Bool.and_eq_true] at h
    exact OrcRun.cons h.1 (OrcRun.all h.2)
theorem few_append : ∀ {l1 l2 : List (List EV × EV)} {xs : List EV}, few (l1 ++ l2) xs = match few l1 xs with
    | some v => some v
    | none => few l2 xs
  | [], l2, xs => rfl
  | (as, v) :: l1, l2, xs => by
    simp only [List.cons_append, few]
    cases argsEq xs as with
    | true => rfl
    | false => exact few_append
theorem OrcRun.append {T : FuncId → Option EFunc} {G : Globs} {f : FuncId} {l1 l2 : List (List EV × EV)} (h1 : OrcRun T G f (few l1)) (h2 : OrcRun T G f (few l2)) : OrcRun T G f (few (l1 ++ l2)) := by
  intro xs u hu
  rw [few_append] at hu
  cases hb : few l1 xs with
  | some v => rw [hb] at hu; exact h1 xs u (by rw [hb]; exact hu)
  | none => rw [hb] at hu; exact h2 xs u hu

/-- A function that is known, laid over a table. -/
def over (T : FuncId → Option EFunc) (f : FuncId) (o : List EV → Option EV) : FuncId → Option EFunc := fun g => bif Nat.beq g f then some ⟨[], .skip, some (.orc o)⟩ else T g
theorem over_at {T : FuncId → Option EFunc} {f : FuncId} {o : List EV → Option EV} : over T f o f = some ⟨[], .skip, some (.orc o)⟩ := by
  unfold over
  rw [Nat.beq_refl]
  rfl
theorem over_ne {T : FuncId → Option EFunc} {f g : FuncId} {o : List EV → Option EV} (h : Nat.beq g f = false) : over T f o g = T g := by
  unfold over
  rw [h]
  rfl
theorem FitsO.over {P : Program} {T : FuncId → Option EFunc} (h : FitsO P T) {f : FuncId} {o : List EV → Option EV} : FitsO P (over T f o) := by
  intro g ef hg
  unfold Ev.over at hg
  cases hb : Nat.beq g f with
  | true => rw [hb] at hg; cases hg; exact .inr ⟨_, rfl⟩
  | false => rw [hb] at hg; exact h g ef hg
def isPlainF : Option EFunc → Bool
  | some ⟨_, _, none⟩ => true
  | _ => false
theorem isPlainF_ok {x : Option EFunc} (h : isPlainF x = true) : ∃ ef, x = some ef ∧ ef.prim = none := by
  unfold isPlainF at h
  split at h
  · exact ⟨_, rfl, rfl⟩
  · cases h
theorem OrcOk.over {P : Program} {T : FuncId → Option EFunc} {G : Globs} (hmix : P.follows .mixedOrders = true) (hT : FitsO P T) (hG : GPlain G) (horc : ∀ base w0, OrcOk P T G base w0) {f : FuncId} {o : List EV → Option EV} (hf : isPlainF (T f) = true) (ho : OrcRun T G f o) : ∀ base w0, OrcOk P (over T f o) G base w0 := by
  intro base w0 g ef o' args m v j w vs hg hp hv hm hvs
  unfold Ev.over at hg
  cases hb : Nat.beq g f with
  | true =>
    rw [hb] at hg
    cases hg
    cases hp
    obtain ⟨ef, hef, hpf⟩ := isPlainF_ok hf
    rw [Nat.eq_of_beq_eq_true hb]
    exact orc_run hmix hT hG horc hef hpf ho hv hm hvs
  | false =>
    rw [hb] at hg
    exact horc base w0 g ef o' args m v j w vs hg hp hv hm hvs
/-- What a known function answers. -/
theorem few_at {T : FuncId → Option EFunc} {G : Globs} {f : FuncId} {o : List EV → Option EV} {as : List EV} {v : EV} (hf : T f = some ⟨[], .skip, some (.orc o)⟩) (h : o as = some v) (m : Mem) : Comes T G f as m none ⟨.val v, m, none⟩ := by
  refine ⟨1, ?_⟩
  rw [evFun, hf]
  simp only [primE, h]
  rfl
end Go.Ev
