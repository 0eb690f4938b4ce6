/- Operators, conversions, slices, indexes, fields on abstract values. Conditions: none (definitions and lemmas). -/
import Derived.Test.YtgcdpdkccaabcaaGreatEvB
import Derived.Laws.Strings2
import Derived.Laws.Slices
namespace Go.Proofs.YtgcdpdkccaabcaaGreat.Ev
open Go
set_option linter.unusedVariables false
set_option linter.unusedSimpArgs false
set_option linter.unusedSectionVars false

/-! ### equality of structs of plain fields -/
inductive LK where
  | int | str | bool
  deriving DecidableEq
def eqLeaf : LK → AV → AV → Option Bool
  | .int, .int k a, .int k' b => if k = k' then some (a == b) else none
  | .str, .str a, .str b => some (a.data.toList == b.data.toList)
  | .bool, .bool a, .bool b => some (a == b)
  | _, _, _ => none
def eqCells : List LK → List AV → List AV → Option Bool
  | [], [], [] => some true
  | k :: ks, x :: xs, y :: ys => match eqLeaf k x y with
    | some true => eqCells ks xs ys
    | some false => some false
    | none => none
  | _, _, _ => none
/-- What the model says of '==' at a type of plain fields. -/
structure EqT (P : Program) (t : TypeId) (ks : List LK) : Prop where
  guard : P.eqGuardType P.depth t = false
  eq : ∀ (L : LC) (w : World) (xs ys : List AV) (vs us : Array Value) (b : Bool), RVs L xs vs.toList → RVs L ys us.toList → eqCells ks xs ys = some b →
    (Op.equal t (.agg vs) (.agg us)).run P w = .ok b w
  key : ∀ (L : LC) (w : World) (empty : Bool) (xs : List AV) (vs : Array Value), RVs L xs vs.toList → eqCells ks xs xs = some true → (Instr.checkKey empty 10000 t (.agg vs)).run P w = .ok () w
abbrev Eqs := List (TypeId × List LK)
def EqsOk (P : Program) (E : Eqs) : Prop := ∀ t ks, E.lookup t = some ks → EqT P t ks

/-! ### operators -/
def intBin (op : BinOp) (k : IntKind) (a b : Int) : Option AV :=
  match op with
  | .add => some (.int k (k.wrap (a + b)))
  | .sub => some (.int k (k.wrap (a - b)))
  | .mul => some (.int k (k.wrap (a * b)))
  | .quo => if b = 0 then none else some (.int k (k.wrap (a.tdiv b)))
  | .rem => if b = 0 then none else some (.int k (a.tmod b))
  | .and => some (.int k (bits .and k a b))
  | .or => some (.int k (bits .or k a b))
  | .xor => some (.int k (bits .xor k a b))
  | .andNot => some (.int k (bits .andNot k a b))
  | .eql => some (.bool (a == b))
  | .neq => some (.bool (a != b))
  | .lss => some (.bool (decide (a < b)))
  | .leq => some (.bool (decide (a ≤ b)))
  | .gtr => some (.bool (decide (a > b)))
  | .geq => some (.bool (decide (a ≥ b)))
  | _ => none
def strEq (a b : ByteArray) : Bool := a.data.toList == b.data.toList
def strLt (a b : ByteArray) : Bool := Op.bytesLess a.data.toList b.data.toList
def strBin (op : BinOp) (a b : ByteArray) : Option AV :=
  match op with
  | .add => if a.size + b.size ≤ 140737488355328 then some (.str (a ++ b)) else none
  | .eql => some (.bool (strEq a b))
  | .neq => some (.bool (!strEq a b))
  | .lss => some (.bool (strLt a b))
  | .leq => some (.bool (strLt a b || strEq a b))
  | .gtr => some (.bool (!(strLt a b || strEq a b)))
  | .geq => some (.bool (!strLt a b))
  | _ => none
/-- Is it nil? -/
def ptrish : AV → Option Bool
  | .nilp => some true
  | .ptr _ _ | .vp _ => some false
  | _ => none
def slish : AV → Option Bool
  | .nils => some true
  | .sl .. | .vsl .. => some false
  | _ => none
def nilBoth : AV → AV → Option Bool
  | .nili, .nili => some true
  | _, _ => none
theorem nilBoth_rel {L : LC} {x y : AV} {v u : Value} {b : Bool} (h : nilBoth x y = some b) (hx : RV L x v) (hy : RV L y u) : b = true ∧ v = .nilIface ∧ u = .nilIface := by
  unfold nilBoth at h
  split at h
  · cases h; simp only [RV] at hx hy; exact ⟨rfl, hx, hy⟩
  · cases h
def nilEq : Option Bool → Option Bool → Option Bool
  | some true, some b => some b
  | some false, some true => some false
  | _, _ => none
def eqlA (P : Program) (E : Eqs) (t : TypeId) (x y : AV) : Option Bool :=
  match x, y with
  | .bool a, .bool b => match P.underlying t with | some .bool => some (a == b) | _ => none
  | .agg xs, .agg ys => match E.lookup t with | some ks => eqCells ks xs ys | none => none
  | _, _ => match P.underlying t with
    | some (.pointer _) => nilEq (ptrish x) (ptrish y)
    | some (.slice _) => nilEq (slish x) (slish y)
    | some (.interface ms) => if ms.isEmpty = true then nilBoth x y else none
    | _ => none
def binA (P : Program) (E : Eqs) (op : BinOp) (t : TypeId) (x y : AV) : Option AV :=
  match x, y with
  | .int k a, .int k' b =>
    match op with
    | .shl => if b < 0 then none else some (.int k (k.wrap (a * 2 ^ (min b.toNat k.bits))))
    | .shr => if b < 0 then none else some (.int k (a.fdiv (2 ^ (min b.toNat k.bits))))
    | _ => if k = k' then intBin op k a b else none
  | .str a, .str b => strBin op a b
  | x, y => match op with
    | .eql => (eqlA P E t x y).map .bool
    | .neq => (eqlA P E t x y).map fun b => .bool (!b)
    | _ => none

theorem ptrish_rel {L : LC} {x : AV} {b : Bool} {v : Value} (h : ptrish x = some b) (hx : RV L x v) : ∃ a, v = .pointer a ∧ a.isNone = b := by
  cases x <;> simp only [ptrish, reduceCtorEq, Option.some.injEq] at h <;> subst h <;> simp only [RV] at hx
  · exact ⟨none, hx, rfl⟩
  · obtain ⟨p, _, rfl⟩ := hx; exact ⟨_, rfl, rfl⟩
  · obtain ⟨_, _, _, _, rfl, _⟩ := hx; exact ⟨_, rfl, rfl⟩
theorem slish_rel {L : LC} {x : AV} {b : Bool} {v : Value} (h : slish x = some b) (hx : RV L x v) : ∃ a n c, v = .slice a n c ∧ a.isNone = b := by
  cases x <;> simp only [slish, reduceCtorEq, Option.some.injEq] at h <;> subst h <;> simp only [RV] at hx
  · exact ⟨none, _, _, hx, rfl⟩
  · obtain ⟨p, c, _, rfl, _⟩ := hx; exact ⟨_, _, _, rfl, rfl⟩
  · obtain ⟨_, _, rfl, _⟩ := hx; exact ⟨_, _, _, rfl, rfl⟩

theorem equalIn_ptr {P : Program} (d : Nat) {t e : TypeId} (hu : P.underlying t = some (.pointer e)) {a c : Option Addr} {b : Bool} (h : nilEq (some a.isNone) (some c.isNone) = some b) (w : World) :
    (Op.equalIn (d + 1) t (.pointer a) (.pointer c)).run P w = .ok b w := by
  cases a <;> cases c <;> simp only [Option.isNone, nilEq, Option.some.injEq, reduceCtorEq] at h <;> subst h
  all_goals simp [Op.equalIn, run_underlying hu]
theorem equal_ptr {P : Program} {t e : TypeId} (hu : P.underlying t = some (.pointer e)) {a c : Option Addr} {b : Bool} (h : nilEq (some a.isNone) (some c.isNone) = some b) (w : World) :
    (Op.equal t (.pointer a) (.pointer c)).run P w = .ok b w := equalIn_ptr 9999 hu h w
theorem equalIn_sl {P : Program} (d : Nat) {t e : TypeId} (hu : P.underlying t = some (.slice e)) {a c : Option Addr} {n1 c1 n2 c2 : Nat} {b : Bool} (h : nilEq (some a.isNone) (some c.isNone) = some b) (w : World) :
    (Op.equalIn (d + 1) t (.slice a n1 c1) (.slice c n2 c2)).run P w = .ok b w := by
  cases a <;> cases c <;> simp only [Option.isNone, nilEq, Option.some.injEq, reduceCtorEq] at h <;> subst h
  all_goals simp [Op.equalIn, run_underlying hu]
theorem equal_sl {P : Program} {t e : TypeId} (hu : P.underlying t = some (.slice e)) {a c : Option Addr} {n1 c1 n2 c2 : Nat} {b : Bool} (h : nilEq (some a.isNone) (some c.isNone) = some b) (w : World) :
    (Op.equal t (.slice a n1 c1) (.slice c n2 c2)).run P w = .ok b w := equalIn_sl 9999 hu h w
theorem equalIn_nili {P : Program} (d : Nat) {t : TypeId} {ms : Array (String × TypeId)} (hu : P.underlying t = some (.interface ms)) (w : World) : (Op.equalIn (d + 1) t .nilIface .nilIface).run P w = .ok true w := by
  simp [Op.equalIn, run_underlying hu]
theorem guardIn_nili {P : Program} (d : Nat) {t : TypeId} {ms : Array (String × TypeId)} (hu : P.underlying t = some (.interface ms)) (hms : ms.isEmpty = true) (w : World) : (Op.eqGuardIn (d + 1) t .nilIface .nilIface).run P w = .ok false w := by
  simp [Op.eqGuardIn, run_underlying hu, hms]
theorem guard_nili {P : Program} {op : BinOp} {t : TypeId} {ms : Array (String × TypeId)} (hu : P.underlying t = some (.interface ms)) (hms : ms.isEmpty = true) (xo yo : Operand) (w : World) (ho : op = .eql ∨ op = .neq) : (eqGuard op t xo yo .nilIface .nilIface).run P w = .ok () w := by
  have h2 : ∀ w, (Op.eqGuardIn Op.maxDepth t .nilIface .nilIface).run P w = .ok false w := guardIn_nili 9999 hu hms
  have key : ∀ (c : Bool) (u : Sem Unit), (if c = true then (pure () : Sem Unit) else do if ← Op.eqGuardIn Op.maxDepth t .nilIface .nilIface then u else pure ()).run P w = .ok () w := by
    intro c u
    cases c
    · simp only [Bool.false_eq_true, if_false, Sem.run_bind, h2 w, Result.andThen_ok]; rfl
    · rfl
  rcases ho with rfl | rfl
  · exact key _ _
  · exact key _ _
theorem equalIn_bool {P : Program} (d : Nat) {t : TypeId} (hu : P.underlying t = some .bool) (a c : Bool) (w : World) :
    (Op.equalIn (d + 1) t (.bool a) (.bool c)).run P w = .ok (a == c) w := by
  simp [Op.equalIn, run_underlying hu]
theorem equal_bool {P : Program} {t : TypeId} (hu : P.underlying t = some .bool) (a c : Bool) (w : World) :
    (Op.equal t (.bool a) (.bool c)).run P w = .ok (a == c) w := equalIn_bool 9999 hu a c w

/-- The run of '==' and '!='. -/
structure EqRun (P : Program) (t : TypeId) (v u : Value) (b : Bool) : Prop where
  eql : ∀ (w : World) (xo yo : Operand), (do eqGuard .eql t xo yo v u; binOp .eql t v u : Sem Value).run P w = .ok (.bool b) w
  neq : ∀ (w : World) (xo yo : Operand), (do eqGuard .neq t xo yo v u; binOp .neq t v u : Sem Value).run P w = .ok (.bool (!b)) w

theorem eqlA_run {P : Program} {E : Eqs} (hE : EqsOk P E) {L : LC} {t : TypeId} {x y : AV} {v u : Value} {b : Bool} (h : eqlA P E t x y = some b) (hx : RV L x v) (hy : RV L y u) : EqRun P t v u b := by
  have nils : (match P.underlying t with
      | some (.pointer _) => nilEq (ptrish x) (ptrish y)
      | some (.slice _) => nilEq (slish x) (slish y)
      | some (.interface ms) => if ms.isEmpty = true then nilBoth x y else none
      | _ => none) = some b → EqRun P t v u b := by
    intro h
    cases hu : P.underlying t with
    | none => simp [hu] at h
    | some d =>
      cases d <;> simp only [hu, reduceCtorEq] at h
      case pointer e =>
        cases hp : ptrish x with
        | none => rw [hp] at h; cases h
        | some p =>
          cases hq : ptrish y with
          | none => rw [hp, hq] at h; cases p <;> cases h
          | some q =>
            obtain ⟨a, rfl, ha⟩ := ptrish_rel hp hx
            obtain ⟨c, rfl, hc⟩ := ptrish_rel hq hy
            rw [hp, hq] at h
            have : ∀ w, (Op.equal t (.pointer a) (.pointer c)).run P w = .ok b w := fun w => equal_ptr hu (by rw [ha, hc]; exact h) w
            constructor <;> intro w xo yo <;> simp [eqGuard, binOp, this w]
      case slice e =>
        cases hp : slish x with
        | none => rw [hp] at h; cases h
        | some p =>
          cases hq : slish y with
          | none => rw [hp, hq] at h; cases p <;> cases h
          | some q =>
            obtain ⟨a, n1, c1, rfl, ha⟩ := slish_rel hp hx
            obtain ⟨c, n2, c2, rfl, hc⟩ := slish_rel hq hy
            rw [hp, hq] at h
            have : ∀ w, (Op.equal t (.slice a n1 c1) (.slice c n2 c2)).run P w = .ok b w := fun w => equal_sl hu (by rw [ha, hc]; exact h) w
            constructor <;> intro w xo yo <;> simp [eqGuard, binOp, this w]
      case interface ms =>
        split at h
        case isFalse => cases h
        rename_i hms
        obtain ⟨rfl, rfl, rfl⟩ := nilBoth_rel h hx hy
        have h1 : ∀ w, (Op.equal t .nilIface .nilIface).run P w = .ok true w := equalIn_nili 9999 hu
        constructor
        · intro w xo yo
          simp only [Sem.run_bind, guard_nili hu hms xo yo w (.inl rfl), Result.andThen_ok]
          simp [binOp, h1 w]
        · intro w xo yo
          simp only [Sem.run_bind, guard_nili hu hms xo yo w (.inr rfl), Result.andThen_ok]
          simp [binOp, h1 w]
  unfold eqlA at h
  split at h
  · rename_i a c
    simp only [RV] at hx hy
    subst hx; subst hy
    cases hu : P.underlying t with
    | none => simp [hu] at h
    | some d =>
      cases d <;> simp only [hu, reduceCtorEq, Option.some.injEq] at h
      subst h
      have : ∀ w, (Op.equal t (.bool a) (.bool c)).run P w = .ok (a == c) w := equal_bool hu a c
      constructor <;> intro w xo yo <;> simp [eqGuard, binOp, this w]
  · rename_i xs ys
    simp only [RV] at hx hy
    obtain ⟨vs, rfl, hvs⟩ := hx
    obtain ⟨us, rfl, hus⟩ := hy
    cases hl : E.lookup t with
    | none => simp [hl] at h
    | some ks =>
      simp only [hl] at h
      have e := hE t ks hl
      have := fun w => e.eq L w xs ys vs us b hvs hus h
      constructor
      · intro w xo yo
        simp only [Sem.run_bind, run_eqGuard_agg w .eql t xo yo vs us e.guard, Result.andThen_ok]
        simp [binOp, this w]
      · intro w xo yo
        simp only [Sem.run_bind, run_eqGuard_agg w .neq t xo yo vs us e.guard, Result.andThen_ok]
        simp [binOp, this w]
  · exact nils h

theorem intBin_run {P : Program} {L : LC} {op : BinOp} {t : TypeId} {k : IntKind} {a b : Int} {z : AV} (h : intBin op k a b = some z) (w : World) :
    ∃ r, (binOp op t (.int k a) (.int k b)).run P w = .ok r w ∧ RV L z r := by
  cases op <;> simp only [intBin, Option.some.injEq, reduceCtorEq] at h
  case quo =>
    by_cases hb : b = 0
    · rw [if_pos hb] at h; cases h
    · rw [if_neg hb] at h; cases h; exact ⟨_, by simp [binOp, Op.intDiv, hb], rfl⟩
  case rem =>
    by_cases hb : b = 0
    · rw [if_pos hb] at h; cases h
    · rw [if_neg hb] at h; cases h; exact ⟨_, by simp [binOp, Op.intDiv, hb], rfl⟩
  all_goals subst h
  case and => exact ⟨_, by rw [binOp_and, intBits_and]; rfl, rfl⟩
  case or => exact ⟨_, by rw [binOp_or, intBits_or]; rfl, rfl⟩
  case xor => exact ⟨_, by rw [binOp_xor, intBits_xor]; rfl, rfl⟩
  case andNot => exact ⟨_, by rw [binOp_andNot, intBits_andNot]; rfl, rfl⟩
  all_goals exact ⟨_, by simp [binOp, Op.intArith, Op.intCmp], rfl⟩

theorem binA_run {P : Program} {E : Eqs} (hE : EqsOk P E) {L : LC} {op : BinOp} {t : TypeId} {x y z : AV} {v u : Value} (h : binA P E op t x y = some z) (hx : RV L x v) (hy : RV L y u) (w : World) (xo yo : Operand) :
    ∃ r, (do eqGuard op t xo yo v u; binOp op t v u : Sem Value).run P w = .ok r w ∧ RV L z r := by
  unfold binA at h
  split at h
  · rename_i k a k' b
    simp only [RV] at hx hy
    subst hx; subst hy
    have hg : (eqGuard op t xo yo (.int k a) (.int k' b)).run P w = .ok () w := by cases op <;> simp [eqGuard]
    simp only [Sem.run_bind, hg, Result.andThen_ok]
    split at h
    · by_cases hb : b < 0
      · rw [if_pos hb] at h; cases h
      · rw [if_neg hb] at h; cases h
        exact ⟨_, by simp [binOp, Op.shift, hb], rfl⟩
    · by_cases hb : b < 0
      · rw [if_pos hb] at h; cases h
      · rw [if_neg hb] at h; cases h
        exact ⟨_, by simp [binOp, Op.shift, hb], rfl⟩
    · by_cases hk : k = k'
      · rw [if_pos hk] at h
        subst hk
        exact intBin_run h w
      · rw [if_neg hk] at h; cases h
  · rename_i a b
    simp only [RV] at hx hy
    subst hx; subst hy
    have hg : (eqGuard op t xo yo (.string a) (.string b)).run P w = .ok () w := by cases op <;> simp [eqGuard]
    simp only [Sem.run_bind, hg, Result.andThen_ok]
    cases op <;> simp only [strBin, reduceCtorEq] at h
    case add =>
      by_cases hb : a.size + b.size ≤ 140737488355328
      · rw [if_pos hb] at h
        cases h
        refine ⟨_, ?_, rfl⟩
        have hm : IntKind.i64.max = 9223372036854775807 := by decide
        have : ¬ (((a.size + b.size : Nat) : Int) > IntKind.i64.max) := by rw [hm]; omega
        simp only [binOp, Op.stringOp, Sem.run_ite, if_neg this, Sem.run_pure]
      · rw [if_neg hb] at h; cases h
    all_goals
      cases h
      exact ⟨_, by simp [binOp, Op.stringOp, ByteArray.toList_eq, strEq, strLt], rfl⟩
  · rename_i hn1 hn2
    cases op <;> simp only [reduceCtorEq] at h
    case eql =>
      obtain ⟨b, hb, rfl⟩ := Option.map_eq_some_iff.1 h
      exact ⟨_, (eqlA_run hE hb hx hy).eql w xo yo, rfl⟩
    case neq =>
      obtain ⟨b, hb, rfl⟩ := Option.map_eq_some_iff.1 h
      exact ⟨_, (eqlA_run hE hb hx hy).neq w xo yo, rfl⟩
end Go.Proofs.YtgcdpdkccaabcaaGreat.Ev
