/- '==' at structs of plain fields: proved for every type whose description says so. Conditions: none (definitions and lemmas). -/
import Derived.Test.YtgcdpdkccaabcaaGreatEvI
namespace Go.Proofs.YtgcdpdkccaabcaaGreat.Ev
open Go
set_option linter.unusedVariables false
set_option linter.unusedSimpArgs false
set_option linter.unusedSectionVars false

mutual
/-- The plain cells of a type, so many levels deep. -/
def flatK (P : Program) : Nat → TypeId → Option (List LK)
  | 0, _ => none
  | d + 1, t => match P.underlying t with
    | some .bool => some [.bool]
    | some (.int _) => some [.int]
    | some .string => some [.str]
    | some (.struct fs) => if P.stoodInHeld t then none else flatFs P d fs.toList 0
    | _ => none
def flatFs (P : Program) : Nat → List Field → Nat → Option (List LK)
  | _, [], _ => some []
  | 0, _ :: _, _ => none
  | d + 1, f :: fs, off =>
    if f.name = "_" ∨ f.offset ≠ off then none else
    match flatK P d f.type, szA P f.type with
    | some ks, some n => if n = ks.length then (flatFs P d fs (off + n)).map fun r => ks ++ r else none
    | _, _ => none
end

theorem eqCells_split {ks1 r : List LK} : ∀ {X Y : List AV} {b : Bool}, eqCells (ks1 ++ r) X Y = some b →
    (eqCells ks1 (X.take ks1.length) (Y.take ks1.length) = some false ∧ b = false) ∨ (eqCells ks1 (X.take ks1.length) (Y.take ks1.length) = some true ∧ eqCells r (X.drop ks1.length) (Y.drop ks1.length) = some b) := by
  induction ks1 with
  | nil => intro X Y b h; exact .inr ⟨by simp [eqCells], by simpa using h⟩
  | cons k ks ih =>
    intro X Y b h
    match X, Y with
    | [], _ => simp [eqCells] at h
    | _ :: _, [] => simp [eqCells] at h
    | x :: X, y :: Y =>
      simp only [List.cons_append, eqCells] at h
      simp only [List.length_cons, List.take_succ_cons, List.drop_succ_cons, eqCells]
      cases hl : eqLeaf k x y with
      | none => simp [hl] at h
      | some c =>
        cases c
        · simp only [hl, Option.some.injEq] at h
          exact .inl ⟨rfl, h.symm⟩
        · simp only [hl] at h
          exact ih h

/-- The type is the leaf's. -/
def LKok (P : Program) (t : TypeId) : LK → Prop
  | .int => ∃ q, P.underlying t = some (.int q)
  | .str => P.underlying t = some .string
  | .bool => P.underlying t = some .bool

theorem eqLeaf_rel {L : LC} {P : Program} {k : LK} {x y : AV} {v u : Value} {b : Bool} (h : eqLeaf k x y = some b) (hx : RV L x v) (hy : RV L y u) {t : TypeId}
    (ht : LKok P t k) (n : Nat) (w : World) :
    (Op.equalIn (n + 1) t v u).run P w = .ok b w ∧ (∀ empty, (Instr.checkKey empty (n + 1) t v).run P w = .ok () w) := by
  cases k with
  | int =>
    cases x <;> cases y <;> simp only [eqLeaf, reduceCtorEq] at h
    rename_i k a k' c
    simp only [RV] at hx hy
    subst hx; subst hy
    by_cases hk : k = k'
    · rw [if_pos hk] at h
      cases h; subst hk
      obtain ⟨q, hq⟩ := ht
      exact ⟨by simp [Op.equalIn, run_underlying hq], fun _ => by simp [Instr.checkKey, run_underlying hq]⟩
    · rw [if_neg hk] at h; cases h
  | str =>
    have ht : P.underlying t = some .string := ht
    cases x <;> cases y <;> simp only [eqLeaf, reduceCtorEq] at h
    rename_i a c
    simp only [RV] at hx hy
    subst hx; subst hy
    cases h
    refine ⟨?_, fun _ => by simp [Instr.checkKey, run_underlying ht]⟩
    rw [run_equalIn_string w n t a c ht, ByteArray.toList_eq, ByteArray.toList_eq]
  | bool =>
    have ht : P.underlying t = some .bool := ht
    cases x <;> cases y <;> simp only [eqLeaf, reduceCtorEq] at h
    rename_i a c
    simp only [RV] at hx hy
    subst hx; subst hy
    cases h
    exact ⟨by simp [Op.equalIn, run_underlying ht], fun _ => by simp [Instr.checkKey, run_underlying ht]⟩

def ckFields (empty : Bool) (d : Nat) (xs : Array Value) : List Field → Sem Unit
  | [] => pure ()
  | f :: fs => do
    if f.name ≠ "_" then Instr.checkKey empty d f.type (← part f.type xs f.offset)
    ckFields empty d xs fs
theorem run_checkKey_struct {P : Program} (w : World) (empty : Bool) (d : Nat) (t : TypeId) (xs : Array Value) {fs : Array Field} (ht : P.underlying t = some (.struct fs)) :
    (Instr.checkKey empty (d + 1) t (.agg xs)).run P w = (ckFields empty d xs fs.toList).run P w := by
  simp only [Instr.checkKey, Sem.run_bind, run_underlying ht, Result.andThen_ok]
  rw [← Array.forIn_toList]
  generalize fs.toList = l
  clear ht
  induction l generalizing w with
  | nil => simp [ckFields]
  | cons f l ih =>
    simp only [List.forIn_cons, ckFields, Sem.run_bind, Sem.run_ite, bind_assoc]
    by_cases hn : f.name ≠ "_"
    · simp only [if_pos hn, Sem.run_bind]
      generalize (part f.type xs f.offset).run P w = r1
      cases r1 with
      | halt x w1 => simp [Result.andThen]
      | ok a w1 =>
        simp only [Result.andThen_ok]
        generalize (Instr.checkKey empty d f.type a).run P w1 = r2
        cases r2 with
        | halt x w2 => simp [Result.andThen]
        | ok u w2 =>
          simp only [Result.andThen_ok, Sem.run_pure]
          exact ih w2
    · simp only [if_neg hn, Sem.run_pure, Result.andThen_ok]
      exact ih w

mutual
theorem flatK_run {P : Program} {L : LC} : ∀ (d : Nat) {t : TypeId} {ks : List LK}, flatK P d t = some ks →
    (isAggB P t = false ∧ ∃ k, ks = [k] ∧ (∃ dd, P.underlying t = some dd) ∧ ∀ (x y : AV) (v u : Value) (b : Bool), RV L x v → RV L y u → eqLeaf k x y = some b → ∀ (n : Nat) (w : World), (Op.equalIn (n + 1) t v u).run P w = .ok b w ∧ (∀ empty, (Instr.checkKey empty (n + 1) t v).run P w = .ok () w)) ∨
    (isAggB P t = true ∧ (∃ dd, P.underlying t = some dd) ∧ ∀ (xs ys : List AV) (vs us : Array Value) (b : Bool), RVs L xs vs.toList → RVs L ys us.toList → eqCells ks xs ys = some b → ∀ (n : Nat) (w : World), d ≤ n →
      (Op.equalIn (n + 1) t (.agg vs) (.agg us)).run P w = .ok b w ∧ (b = true → ∀ empty, (Instr.checkKey empty (n + 1) t (.agg vs)).run P w = .ok () w))
  | 0, t, ks, h => by simp [flatK] at h
  | d + 1, t, ks, h => by
    cases hu : P.underlying t with
    | none => simp [flatK, hu] at h
    | some dd =>
      have hag : isAggB P t = (match dd with | .struct _ | .array _ _ => true | _ => false) := by simp only [isAggB, hu]; cases dd <;> rfl
      cases dd <;> simp only [flatK, hu, reduceCtorEq, Option.some.injEq] at h
      case bool => subst h; exact .inl ⟨hag, _, rfl, ⟨_, rfl⟩, fun x y v u b hx hy he n w => eqLeaf_rel he hx hy hu n w⟩
      case int q => subst h; exact .inl ⟨hag, _, rfl, ⟨_, rfl⟩, fun x y v u b hx hy he n w => eqLeaf_rel he hx hy ⟨q, hu⟩ n w⟩
      case string => subst h; exact .inl ⟨hag, _, rfl, ⟨_, rfl⟩, fun x y v u b hx hy he n w => eqLeaf_rel he hx hy hu n w⟩
      case struct fs =>
        by_cases hs : P.stoodInHeld t = true
        · rw [if_pos hs] at h; cases h
        · rw [if_neg hs] at h
          refine .inr ⟨hag, ⟨_, rfl⟩, fun xs ys vs us b hx hy he n w hn => ?_⟩
          have hff : P.fieldsOf t = fs := by simp [Program.fieldsOf, hu]
          obtain ⟨m, rfl⟩ : ∃ m, n = m + 1 := ⟨n - 1, by omega⟩
          have := flatFs_run (L := L) d h xs ys vs us b hx hy (by simpa using he) (m + 1) w (by omega)
          refine ⟨?_, fun hb empty => ?_⟩
          · rw [run_equalIn_struct w (m + 1) t vs us (by rw [hff]; exact hu) (by simpa using hs), hff]
            exact this.1
          · rw [run_checkKey_struct w empty (m + 1) t vs hu]
            exact this.2 hb empty
theorem flatFs_run {P : Program} {L : LC} : ∀ (d : Nat) {fs : List Field} {off : Nat} {ks : List LK}, flatFs P d fs off = some ks → ∀ (xs ys : List AV) (vs us : Array Value) (b : Bool), RVs L xs vs.toList → RVs L ys us.toList → eqCells ks (xs.drop off) (ys.drop off) = some b →
    ∀ (n : Nat) (w : World), d < n → (Op.eqFields n vs us fs).run P w = .ok b w ∧ (b = true → ∀ empty, (ckFields empty n vs fs).run P w = .ok () w)
  | d, [], off, ks, h => by
    intro xs ys vs us b hx hy he n w _
    cases d <;> simp only [flatFs, Option.some.injEq] at h <;> subst h
    all_goals
      cases hX : xs.drop off <;> cases hY : ys.drop off <;> simp only [hX, hY, eqCells, reduceCtorEq, Option.some.injEq] at he
      subst he
      exact ⟨by simp [Op.eqFields], fun _ _ => by simp [ckFields]⟩
  | 0, f :: fs, off, ks, h => by simp [flatFs] at h
  | d + 1, f :: fs, off, ks, h => by
    intro xs ys vs us b hx hy he n w hn
    simp only [flatFs] at h
    by_cases hc : f.name = "_" ∨ f.offset ≠ off
    · rw [if_pos hc] at h; cases h
    · rw [if_neg hc] at h
      have hname : f.name ≠ "_" := fun e => hc (.inl e)
      have hoff : f.offset = off := Decidable.byContradiction fun e => hc (.inr e)
      cases hk : flatK P d f.type with
      | none => simp [hk] at h
      | some ks1 =>
        cases hz : szA P f.type with
        | none => simp [hk, hz] at h
        | some sz =>
          simp only [hk, hz] at h
          by_cases hsz : sz = ks1.length
          · rw [if_pos hsz] at h
            obtain ⟨r, hr, rfl⟩ := Option.map_eq_some_iff.1 h
            obtain ⟨n', rfl⟩ : ∃ n', n = n' + 1 := ⟨n - 1, by omega⟩
            have hsp := eqCells_split he
            simp only [List.drop_drop] at hsp
            -- the field itself
            have fld : ∃ a c, (part f.type vs f.offset).run P w = .ok a w ∧ (part f.type us f.offset).run P w = .ok c w ∧ ∀ b1, eqCells ks1 ((xs.drop off).take ks1.length) ((ys.drop off).take ks1.length) = some b1 →
                (Op.equalIn (n' + 1) f.type a c).run P w = .ok b1 w ∧ (b1 = true → ∀ empty, (Instr.checkKey empty (n' + 1) f.type a).run P w = .ok () w) := by
              rcases flatK_run (L := L) d hk with ⟨hag, k, rfl, ⟨dd, hdd⟩, hleaf⟩ | ⟨hag, ⟨dd, hdd⟩, hst⟩
              · have hX : ∃ x X, xs.drop off = x :: X := by
                  cases hX : xs.drop off with
                  | nil => rw [hX] at hsp; simp [eqCells] at hsp
                  | cons x X => exact ⟨x, X, rfl⟩
                have hY : ∃ y Y, ys.drop off = y :: Y := by
                  obtain ⟨x, X, hX⟩ := hX
                  cases hY : ys.drop off with
                  | nil => rw [hX, hY] at hsp; simp [eqCells] at hsp
                  | cons y Y => exact ⟨y, Y, rfl⟩
                obtain ⟨x, X, hX⟩ := hX
                obtain ⟨y, Y, hY⟩ := hY
                have gx : xs[off]? = some x := by
                  have := congrArg (fun l => l[0]?) hX
                  simpa using this
                have gy : ys[off]? = some y := by
                  have := congrArg (fun l => l[0]?) hY
                  simpa using this
                obtain ⟨v, hv1, hv2⟩ := hx.get_some gx
                obtain ⟨u, hu1, hu2⟩ := hy.get_some gy
                have hv1' : vs[off]? = some v := by simpa using hv1
                have hu1' : us[off]? = some u := by simpa using hu1
                refine ⟨v, u, by simp [part, run_isAgg' w hdd, hag, hoff, hv1'], by simp [part, run_isAgg' w hdd, hag, hoff, hu1'], fun b1 hb1 => ?_⟩
                rw [hX, hY] at hb1
                simp only [List.length_singleton, List.take_succ_cons, List.take_zero, eqCells] at hb1
                cases hl : eqLeaf k x y with
                | none => simp [hl] at hb1
                | some c =>
                  have hbc : b1 = c := by
                    rw [hl] at hb1
                    cases c <;> simp [eqCells] at hb1 <;> rw [hb1]
                  subst hbc
                  have := hleaf x y v u b1 hv2 hu2 hl n' w
                  exact ⟨this.1, fun _ => this.2⟩
              · refine ⟨.agg (vs.extract off (off + sz)), .agg (us.extract off (off + sz)), by simp [part, run_isAgg' w hdd, hag, hoff, run_sizeOf' w hz], by simp [part, run_isAgg' w hdd, hag, hoff, run_sizeOf' w hz], fun b1 hb1 => ?_⟩
                have ex : ∀ a : Array Value, (a.extract off (off + sz)).toList = (a.toList.drop off).take sz := fun a => by simp [Array.toList_extract, List.extract_eq_take_drop, Nat.add_sub_cancel_left]
                refine hst ((xs.drop off).take sz) ((ys.drop off).take sz) _ _ b1 (by rw [ex]; exact (hx.drop off).take sz) (by rw [ex]; exact (hy.drop off).take sz) (by rw [hsz]; exact hb1) n' w (by omega)
            obtain ⟨a, c, ha, hc', hf⟩ := fld
            rcases hsp with ⟨h1, rfl⟩ | ⟨h1, h2⟩
            · refine ⟨?_, fun hb => by cases hb⟩
              have := (hf false h1).1
              simp [Op.eqFields, hname, ha, hc', this]
            · obtain ⟨g1, g2⟩ := hf true h1
              have ih := flatFs_run (L := L) d hr xs ys vs us b hx hy (by rw [hsz]; exact h2) (n' + 1) w (by omega)
              refine ⟨?_, fun hb empty => ?_⟩
              · simp only [Op.eqFields, if_pos hname, Sem.run_bind, ha, hc', Result.andThen_ok, g1]
                simpa using ih.1
              · simp only [ckFields, if_pos hname, Sem.run_bind, ha, Result.andThen_ok, g2 rfl empty]
                exact ih.2 hb empty
          · rw [if_neg hsz] at h; cases h
end

theorem eqT_of {P : Program} {t : TypeId} {ks : List LK} (h : flatK P 100 t = some ks) (ha : isAggB P t = true) (hg : P.eqGuardType P.depth t = false) : EqT P t ks := by
  refine ⟨hg, fun L w xs ys vs us b hx hy he => ?_, fun L w empty xs vs hx he => ?_⟩
  · rcases flatK_run (L := L) 100 h with ⟨k, _⟩ | ⟨_, _, k⟩
    · rw [ha] at k; cases k
    · exact (k xs ys vs us b hx hy he 9999 w (by omega)).1
  · rcases flatK_run (L := L) 100 h with ⟨k, _⟩ | ⟨_, _, k⟩
    · rw [ha] at k; cases k
    · exact (k xs xs vs vs true hx hx he 9999 w (by omega)).2 rfl empty
/-- All of a list, by the kernel. -/
def eqsOkB (P : Program) (E : Eqs) : Bool := E.all fun e => (match flatK P 100 e.1 with | some ks => decide (ks = e.2) | none => false) && isAggB P e.1 && !P.eqGuardType P.depth e.1
theorem eqsOk_of {P : Program} {E : Eqs} (h : eqsOkB P E = true) : EqsOk P E := by
  intro t ks hl
  have : ∀ {E : Eqs}, eqsOkB P E = true → E.lookup t = some ks → EqT P t ks := by
    intro E
    induction E with
    | nil => intro _ h; simp at h
    | cons e E ih =>
      intro h hl
      obtain ⟨t', ks'⟩ := e
      simp only [eqsOkB, List.all_cons, Bool.and_eq_true, Bool.not_eq_true'] at h
      rw [List.lookup_cons] at hl
      split at hl
      · rename_i hb
        have e1 : t = t' := by simpa using hb
        have e2 : ks' = ks := Option.some.inj hl
        subst e1; subst e2
        obtain ⟨⟨⟨h1, h2⟩, h3⟩, _⟩ := h
        split at h1
        · rename_i ks0 hk
          have : ks0 = ks' := of_decide_eq_true h1
          subst this
          exact eqT_of hk h2 h3
        · cases h1
      · exact ih h.2 hl
  exact this h hl
end Go.Proofs.YtgcdpdkccaabcaaGreat.Ev
