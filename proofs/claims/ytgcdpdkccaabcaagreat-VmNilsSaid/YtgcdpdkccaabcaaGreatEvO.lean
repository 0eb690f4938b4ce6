/- Whole functions: the evaluation of a body, and of all that it calls. Conditions: none (definitions and lemmas). -/
import Derived.Test.YtgcdpdkccaabcaaGreatEvN
import Derived.Scope
import Derived.LoopN
namespace Go.Proofs.YtgcdpdkccaabcaaGreat.Ev
open Go
set_option linter.unusedVariables false
set_option linter.unusedSimpArgs false
set_option linter.unusedSectionVars false

inductive Ex where
  | normal
  | exit (id : Nat)
  | ret
def Ex.real : Ex → Exit
  | .normal => .normal
  | .exit id => .exit id
  | .ret => .ret
structure St where
  env : List AV
  h : Heap
  lw : Nat
def stOf (q : List AV × Heap × Nat) : St := ⟨q.1, q.2.1, q.2.2⟩
def evC (P : Program) (E : Eqs) (Φ : Orc) : Nat → Code → St → Option (Ex × St)
  | 0, _, _ => none
  | n + 1, c, s => match c with
    | .skip | .label _ => some (.normal, s)
    | .region _ ops draw =>
      (if draw then evDraw P E Φ ops.toList ops.toList [] [] s.env s.h s.lw else evOps P E Φ ops.toList ops.toList s.env s.h s.lw).map fun q => (.normal, stOf q)
    | .seq a b => match evC P E Φ n a s with
      | some (.normal, s') => evC P E Φ n b s'
      | r => r
    | .cond x a b => match evalA s.env x with
      | .bool true => evC P E Φ n a s
      | .bool false => evC P E Φ n b s
      | _ => none
    | .block id b => match evC P E Φ n b s with
      | some (.exit i, s') => some (if i = id then .normal else .exit i, s')
      | r => r
    | .loop b => match evC P E Φ n b s with
      | some (.normal, s') => evC P E Φ n (.loop b) s'
      | r => r
    | .scope b => evC P E Φ n b s
    | .exit id => some (.exit id, s)
    | .ret => some (.ret, s)
    | _ => none

theorem evC_more1 {P : Program} {E : Eqs} {Φ : Orc} : ∀ (n : Nat) {c : Code} {s : St} {r : Ex × St}, evC P E Φ n c s = some r → evC P E Φ (n + 1) c s = some r := by
  intro n
  induction n with
  | zero => intro c s r e; simp [evC] at e
  | succ n ih =>
    intro c s r e
    cases c with
    | skip => exact e
    | label l => exact e
    | exit id => exact e
    | ret => exact e
    | region rid ops draw => exact e
    | seq a b =>
      simp only [evC] at e
      rw [evC]
      cases ha : evC P E Φ n a s with
      | none => simp [ha] at e
      | some q =>
        obtain ⟨y, s1⟩ := q
        rw [ih ha]
        simp only [ha] at e
        cases y with
        | normal => exact ih e
        | exit id => exact e
        | ret => exact e
    | cond y a b =>
      rw [evC] at e ⊢
      split at e
      · exact ih e
      · exact ih e
      · cases e
    | block id b =>
      simp only [evC] at e
      rw [evC]
      cases hb : evC P E Φ n b s with
      | none => simp [hb] at e
      | some q => rw [ih hb]; simp only [hb] at e; exact e
    | scope b => exact ih e
    | loop b =>
      simp only [evC] at e
      rw [evC]
      cases hb : evC P E Φ n b s with
      | none => simp [hb] at e
      | some q =>
        obtain ⟨y, s1⟩ := q
        rw [ih hb]
        simp only [hb] at e
        cases y with
        | normal => exact ih e
        | exit id => exact e
        | ret => exact e
    | rangeFunc f ps as b => simp [evC] at e
    | goto l => simp [evC] at e
    | refuse w => simp [evC] at e
theorem evC_more {P : Program} {E : Eqs} {Φ : Orc} {n m : Nat} (h : n ≤ m) {c : Code} {s : St} {r : Ex × St} (e : evC P E Φ n c s = some r) : evC P E Φ m c s = some r := by
  induction m with
  | zero => obtain rfl : n = 0 := by omega
            exact e
  | succ m ih =>
    rcases Nat.lt_or_ge n (m + 1) with k | k
    · exact evC_more1 m (ih (by omega))
    · obtain rfl : n = m + 1 := by omega
      exact e
theorem evC_low {P : Program} {E : Eqs} {Φ : Orc} (hΦ : OrcOk P Φ) : ∀ (n : Nat) {c : Code} {s s' : St} {x : Ex}, evC P E Φ n c s = some (x, s') → s'.lw ≤ s.lw ∧ s.h.length ≤ s'.h.length ∧ ∀ id, id < s'.lw → id < s.h.length → s'.h[id]? = s.h[id]? := by
  intro n
  induction n with
  | zero => intro c s s' x e; simp [evC] at e
  | succ n ih =>
    intro c s s' x e
    have two : ∀ {c d : Code} {y : Ex} {s1 : St}, evC P E Φ n c s = some (y, s1) → evC P E Φ n d s1 = some (x, s') → s'.lw ≤ s.lw ∧ s.h.length ≤ s'.h.length ∧ ∀ id, id < s'.lw → id < s.h.length → s'.h[id]? = s.h[id]? := by
      intro c d y s1 h1 h2
      obtain ⟨a1, a2, a3⟩ := ih h1
      obtain ⟨b1, b2, b3⟩ := ih h2
      exact ⟨Nat.le_trans b1 a1, Nat.le_trans a2 b2, fun id hl hid => (b3 id hl (by omega)).trans (a3 id (by omega) hid)⟩
    cases c with
    | skip => cases e; exact ⟨Nat.le_refl _, Nat.le_refl _, fun _ _ _ => rfl⟩
    | label l => cases e; exact ⟨Nat.le_refl _, Nat.le_refl _, fun _ _ _ => rfl⟩
    | exit id => cases e; exact ⟨Nat.le_refl _, Nat.le_refl _, fun _ _ _ => rfl⟩
    | ret => cases e; exact ⟨Nat.le_refl _, Nat.le_refl _, fun _ _ _ => rfl⟩
    | region rid ops draw =>
      simp only [evC] at e
      obtain ⟨q, hq, e⟩ := Option.map_eq_some_iff.1 e
      cases e
      cases draw
      · exact evOps_low hΦ _ hq
      · exact evDraw_low hΦ _ hq
    | seq a b =>
      simp only [evC] at e
      cases ha : evC P E Φ n a s with
      | none => simp [ha] at e
      | some q =>
        obtain ⟨y, s1⟩ := q
        simp only [ha] at e
        cases y with
        | normal => exact two ha e
        | exit id => cases e; exact ih ha
        | ret => cases e; exact ih ha
    | cond y a b =>
      simp only [evC] at e
      split at e
      · exact ih e
      · exact ih e
      · cases e
    | block id b =>
      simp only [evC] at e
      cases hb : evC P E Φ n b s with
      | none => simp [hb] at e
      | some q =>
        obtain ⟨y, s1⟩ := q
        simp only [hb] at e
        cases y with
        | normal => cases e; exact ih hb
        | exit i => cases e; exact ih hb
        | ret => cases e; exact ih hb
    | scope b => exact ih e
    | loop b =>
      simp only [evC] at e
      cases hb : evC P E Φ n b s with
      | none => simp [hb] at e
      | some q =>
        obtain ⟨y, s1⟩ := q
        simp only [hb] at e
        cases y with
        | normal => exact two hb e
        | exit id => cases e; exact ih hb
        | ret => cases e; exact ih hb
    | rangeFunc f ps as b => simp [evC] at e
    | goto l => simp [evC] at e
    | refuse w => simp [evC] at e

/-- A piece of code: what it comes to. -/
def CodeR (P : Program) (c : Code) (s : St) (R : Ex → St → Prop) : Prop :=
  ∀ (L : LC) (a : Act) (w : World) (Q : Exit → Act → World → Prop), SatH L s.h w → RVs L s.env a.tmps.toList →
    (∀ x s' a' w' L', R x s' → Stps L s.h w L' s'.h w' → Kept s'.lw L w L' w' → s'.lw ≤ s.lw → RVs L' s'.env a'.tmps.toList → a'.defers = a.defers → Q x.real a' w') → c.wp P Q a w

section
variable {P : Program} {E : Eqs} (hE : EqsOk P E) {Φ : Orc} (hΦ : OrcOk P Φ) (hmix : P.follows .mixedOrders = true)
theorem CodeR.mono {c : Code} {s : St} {R R' : Ex → St → Prop} (h : CodeR P c s R) (hr : ∀ x s', R x s' → R' x s') : CodeR P c s R' :=
  fun L a w Q h1 h2 hQ => h L a w Q h1 h2 fun x s' a' w' L' r => hQ x s' a' w' L' (hr x s' r)
theorem CodeR.skip {s : St} {R : Ex → St → Prop} (h : R .normal s) : CodeR P .skip s R :=
  fun L a w Q h1 h2 hQ => wp_skip (hQ .normal s a w L h (.refl h1) (.refl _ _ _) (Nat.le_refl _) h2 rfl)
theorem CodeR.label {s : St} {R : Ex → St → Prop} {l : Nat} (h : R .normal s) : CodeR P (.label l) s R :=
  fun L a w Q h1 h2 hQ => wp_label (hQ .normal s a w L h (.refl h1) (.refl _ _ _) (Nat.le_refl _) h2 rfl)
theorem CodeR.exit {s : St} {R : Ex → St → Prop} {id : Nat} (h : R (.exit id) s) : CodeR P (.exit id) s R :=
  fun L a w Q h1 h2 hQ => wp_exit (hQ (.exit id) s a w L h (.refl h1) (.refl _ _ _) (Nat.le_refl _) h2 rfl)
theorem CodeR.ret {s : St} {R : Ex → St → Prop} (h : R .ret s) : CodeR P .ret s R :=
  fun L a w Q h1 h2 hQ => wp_ret (hQ .ret s a w L h (.refl h1) (.refl _ _ _) (Nat.le_refl _) h2 rfl)
theorem CodeR.seq {c d : Code} {s : St} {R : Ex → St → Prop} (h : CodeR P c s fun x s' => (x = .normal → CodeR P d s' R) ∧ (x ≠ .normal → R x s')) : CodeR P (.seq c d) s R := by
  intro L a w Q h1 h2 hQ
  refine wp_seq (h L a w _ h1 h2 fun x s' a' w' L' r t k hl e hd => ?_)
  cases x with
  | normal =>
    show d.wp P Q a' w'
    refine r.1 rfl L' a' w' Q t.sat e fun x2 s2 a2 w2 L2 r2 t2 k2 hl2 e2 hd2 => hQ x2 s2 a2 w2 L2 r2 (t.trans t2) (k.trans k2 hl2 (Nat.le_refl _)) (Nat.le_trans hl2 hl) e2 (hd2.trans hd)
  | exit id => exact hQ (.exit id) s' a' w' L' (r.2 (by simp)) t k hl e hd
  | ret => exact hQ .ret s' a' w' L' (r.2 (by simp)) t k hl e hd
theorem CodeR.cond {x : Operand} {c d : Code} {s : St} {R : Ex → St → Prop} {b : Bool} (hb : evalA s.env x = .bool b) (h : CodeR P (if b then c else d) s R) : CodeR P (.cond x c d) s R := by
  intro L a w Q h1 h2 hQ
  have := evalA_rel h2 x
  rw [hb] at this
  exact wp_cond (t := b) this (h L a w Q h1 h2 hQ)
theorem CodeR.block {id : Nat} {c : Code} {s : St} {R : Ex → St → Prop} (h : CodeR P c s fun x s' => match x with | .exit i => if i = id then R .normal s' else R (.exit i) s' | x => R x s') : CodeR P (.block id c) s R := by
  intro L a w Q h1 h2 hQ
  refine wp_block (h L a w _ h1 h2 fun x s' a' w' L' r t k hl e hd => ?_)
  cases x with
  | normal => exact hQ .normal s' a' w' L' r t k hl e hd
  | exit i =>
    simp only at r
    show (if i = id then Q .normal a' w' else Q (.exit i) a' w')
    by_cases hi : i = id
    · rw [if_pos hi] at r ⊢; exact hQ .normal s' a' w' L' r t k hl e hd
    · rw [if_neg hi] at r ⊢; exact hQ (.exit i) s' a' w' L' r t k hl e hd
  | ret => exact hQ .ret s' a' w' L' r t k hl e hd
theorem CodeR.scope {c : Code} {s : St} {R : Ex → St → Prop} (h : CodeR P c s R) : CodeR P (.scope c) s R := by
  intro L a w Q h1 h2 hQ
  refine wp_scope_straight (h L a w _ h1 h2 fun x s' a' w' L' r t k hl e hd => ?_)
  cases x <;> exact hQ _ s' a' w' L' r t k hl e hd
theorem CodeR.loop {c : Code} (I : St → Prop) (μ : St → Nat) {s : St} {R : Ex → St → Prop} (h0 : I s) (round : ∀ s, I s → CodeR P c s fun x s' => (x = .normal → I s' ∧ μ s' < μ s) ∧ (x ≠ .normal → R x s')) : CodeR P (.loop c) s R := by
  intro L a w Q h1 h2 hQ
  refine wp_loop_rounds (μ s + 1) ?_
  have key : ∀ (n : Nat) (s : St) (L : LC) (a : Act) (w : World), I s → μ s < n → SatH L s.h w → RVs L s.env a.tmps.toList →
      (∀ x s' a' w' L', R x s' → Stps L s.h w L' s'.h w' → Kept s'.lw L w L' w' → s'.lw ≤ s.lw → RVs L' s'.env a'.tmps.toList → a'.defers = a.defers → Q x.real a' w') → Code.rounds P c Q n a w := by
    intro n
    induction n with
    | zero => intro s L a w _ h; omega
    | succ n ih =>
      intro s L a w hi hm h1 h2 hQ
      rw [rounds_succ]
      refine round s hi L a w _ h1 h2 fun x s' a' w' L' r t k hl e hd => ?_
      cases x with
      | normal =>
        obtain ⟨hi', hm'⟩ := r.1 rfl
        exact ih s' L' a' w' hi' (by omega) t.sat e fun x2 s2 a2 w2 L2 r2 t2 k2 hl2 e2 hd2 => hQ x2 s2 a2 w2 L2 r2 (t.trans t2) (k.trans k2 hl2 (Nat.le_refl _)) (Nat.le_trans hl2 hl) e2 (hd2.trans hd)
      | exit id => exact hQ (.exit id) s' a' w' L' (r.2 (by simp)) t k hl e hd
      | ret => exact hQ .ret s' a' w' L' (r.2 (by simp)) t k hl e hd
  exact key _ s L a w h0 (Nat.lt_succ_self _) h1 h2 hQ
theorem CodeR.region (hE : EqsOk P E) (hΦ : OrcOk P Φ) {rid : Nat} {ops : Array Oper} {s : St} {R : Ex → St → Prop} {q : List AV × Heap × Nat} (e : evOps P E Φ ops.toList ops.toList s.env s.h s.lw = some q) (h : R .normal (stOf q)) : CodeR P (.region rid ops false) s R :=
  fun L a w Q h1 h2 hQ => wp_region_list (evOps_run hE hΦ ops.toList e h1 h2 fun a' w' L' t k r d => hQ .normal (stOf q) a' w' L' h t k (evOps_low hΦ _ e).1 r d)
theorem CodeR.draw (hE : EqsOk P E) (hΦ : OrcOk P Φ) (hmix : P.follows .mixedOrders = true) {rid : Nat} {ops : Array Oper} {s : St} {R : Ex → St → Prop} {q : List AV × Heap × Nat} (e : evDraw P E Φ ops.toList ops.toList [] [] s.env s.h s.lw = some q) (h : R .normal (stOf q)) : CodeR P (.region rid ops true) s R :=
  fun L a w Q h1 h2 hQ => evDraw_run hE hΦ hmix e h1 h2 fun a' w' L' t k r d => hQ .normal (stOf q) a' w' L' h t k (evDraw_low hΦ _ e).1 r d

/-- The evaluation of a piece of code. -/
theorem evC_run (hE : EqsOk P E) (hΦ : OrcOk P Φ) (hmix : P.follows .mixedOrders = true) : ∀ (n : Nat) {c : Code} {s s' : St} {x : Ex}, evC P E Φ n c s = some (x, s') → CodeR P c s fun x0 s0 => x0 = x ∧ s0 = s' := by
  intro n
  induction n with
  | zero => intro c s s' x e; simp [evC] at e
  | succ n ih =>
    intro c s s' x e
    cases c with
    | skip => cases e; exact .skip ⟨rfl, rfl⟩
    | label l => cases e; exact .label ⟨rfl, rfl⟩
    | exit id => cases e; exact .exit ⟨rfl, rfl⟩
    | ret => cases e; exact .ret ⟨rfl, rfl⟩
    | region rid ops draw =>
      simp only [evC] at e
      obtain ⟨q, hq, e⟩ := Option.map_eq_some_iff.1 e
      cases e
      cases draw
      · exact .region hE hΦ hq ⟨rfl, rfl⟩
      · exact .draw hE hΦ hmix hq ⟨rfl, rfl⟩
    | seq a b =>
      simp only [evC] at e
      cases ha : evC P E Φ n a s with
      | none => simp [ha] at e
      | some q =>
        obtain ⟨y, s1⟩ := q
        simp only [ha] at e
        refine .seq ((ih ha).mono ?_)
        rintro x0 s0 ⟨rfl, rfl⟩
        cases x0 with
        | normal => exact ⟨fun _ => ih e, fun h => absurd rfl h⟩
        | exit id => cases e; exact ⟨fun h => by simp at h, fun _ => ⟨rfl, rfl⟩⟩
        | ret => cases e; exact ⟨fun h => by simp at h, fun _ => ⟨rfl, rfl⟩⟩
    | cond y a b =>
      simp only [evC] at e
      split at e
      · rename_i hb; exact .cond hb (ih e)
      · rename_i hb; exact .cond hb (ih e)
      · cases e
    | block id b =>
      simp only [evC] at e
      cases hb : evC P E Φ n b s with
      | none => simp [hb] at e
      | some q =>
        obtain ⟨y, s1⟩ := q
        simp only [hb] at e
        refine .block ((ih hb).mono ?_)
        rintro x0 s0 ⟨rfl, rfl⟩
        cases x0 with
        | normal => cases e; exact ⟨rfl, rfl⟩
        | exit i =>
          simp only at e ⊢
          by_cases hi : i = id
          · rw [if_pos hi] at e ⊢; cases e; exact ⟨rfl, rfl⟩
          · rw [if_neg hi] at e ⊢; cases e; exact ⟨rfl, rfl⟩
        | ret => cases e; exact ⟨rfl, rfl⟩
    | scope b => exact .scope (ih e)
    | loop b =>
      -- the rounds, one by one
      have key : ∀ (m : Nat), m ≤ n + 1 → ∀ {s : St}, evC P E Φ m (.loop b) s = some (x, s') → ∀ (L : LC) (a : Act) (w : World) (Q : Exit → Act → World → Prop), SatH L s.h w → RVs L s.env a.tmps.toList →
          (∀ a' w' L', Stps L s.h w L' s'.h w' → Kept s'.lw L w L' w' → s'.lw ≤ s.lw → RVs L' s'.env a'.tmps.toList → a'.defers = a.defers → Q x.real a' w') → Code.rounds P b Q m a w := by
        intro m
        induction m with
        | zero => intro _ s e; simp [evC] at e
        | succ m ihm =>
          intro hm s e L a w Q h1 h2 hQ
          rw [rounds_succ]
          simp only [evC] at e
          cases hb : evC P E Φ m b s with
          | none => simp [hb] at e
          | some q =>
            obtain ⟨y, s1⟩ := q
            simp only [hb] at e
            have hmono : evC P E Φ n b s = some (y, s1) := evC_more (by omega) hb
            refine ih hmono L a w _ h1 h2 ?_
            rintro x0 s0 a' w' L' ⟨rfl, rfl⟩ t k hl r d
            cases x0 with
            | normal => exact ihm (by omega) e L' a' w' Q t.sat r fun a2 w2 L2 t2 k2 hl2 r2 d2 => hQ a2 w2 L2 (t.trans t2) (k.trans k2 hl2 (Nat.le_refl _)) (Nat.le_trans hl2 hl) r2 (d2.trans d)
            | exit id => cases e; exact hQ a' w' L' t k hl r d
            | ret => cases e; exact hQ a' w' L' t k hl r d
      intro L a w Q h1 h2 hQ
      exact wp_loop_rounds (n + 1) (key (n + 1) (Nat.le_refl _) e L a w Q h1 h2 fun a' w' L' t k hl r d => hQ x s' a' w' L' ⟨rfl, rfl⟩ t k hl r d)
    | rangeFunc f ps as b => simp [evC] at e
    | goto l => simp [evC] at e
    | refuse w => simp [evC] at e
end

/-! ### functions -/
/-- The results of a function. -/
def resA (P : Program) (h : Heap) (env : List AV) : List ResultVar → Option (List AV)
  | [] => some []
  | .tmp t :: rest => (resA P h env rest).map fun r => env.getD t (.tup []) :: r
  | .cell a t :: rest => match env.getD a (.tup []) with
    | .ptr id off => match loadA P h t (.ptr id off), resA P h env rest with
      | some (v, _), some r => some (v :: r)
      | _, _ => none
    | _ => none
def oneOf (vs : List AV) : AV := match vs with | [v] => v | vs => .tup vs
def resM (a : Act) : ResultVar → Sem Value := fun
    | .tmp t => pure (a.tmps.getD t undef)
    | .cell c t => do loadVar t (← asAddr (a.tmps.getD c undef))
theorem resA_run {P : Program} {L : LC} {h : Heap} {w : World} (s : SatH L h w) {env : List AV} {a : Act} (hr : RVs L env a.tmps.toList) : ∀ {rs : List ResultVar} {vs : List AV}, resA P h env rs = some vs →
    ∃ us, (rs.mapM (resM a)).run P w = .ok us w ∧ RVs L vs us := by
  intro rs
  induction rs with
  | nil => intro vs e; cases e; exact ⟨[], by simp, .nil⟩
  | cons r rs ih =>
    intro vs e
    cases r with
    | tmp t =>
      simp only [resA] at e
      obtain ⟨q, hq, rfl⟩ := Option.map_eq_some_iff.1 e
      obtain ⟨us, h1, h2⟩ := ih hq
      have hv := evalA_rel hr (.tmp t)
      refine ⟨a.tmps.getD t undef :: us, ?_, .cons hv h2⟩
      have hr1 : (resM a (.tmp t)).run P w = .ok (a.tmps.getD t undef) w := rfl
      simp only [List.mapM_cons, Sem.run_bind, Sem.run_pure, Result.andThen_ok, hr1, h1]
    | cell c t =>
      simp only [resA] at e
      split at e
      · rename_i id off hp
        split at e
        · rename_i v rd q hl hq
          cases e
          obtain ⟨us, h1, h2⟩ := ih hq
          have hv := evalA_rel hr (.tmp c)
          simp only [evalA] at hv
          rw [hp] at hv
          have hv0 := hv
          obtain ⟨p, hp1, hp2⟩ := hv
          obtain ⟨u, h3, h4⟩ := loadA_run s hl (fun _ _ => trivial) hv0
          have hp2' : a.tmps.getD c undef = .pointer (some ⟨p.b, p.o + off, none⟩) := hp2
          refine ⟨u :: us, ?_, .cons h4 h2⟩
          have h3' : (Instr.loadAt t (.pointer (some ⟨p.b, p.o + off, none⟩))).run P w = .ok u w := by
            have hp3 : a.eval (.tmp c) = .pointer (some ⟨p.b, p.o + off, none⟩) := hp2
            rw [← hp3]; exact h3
          simp only [Instr.loadAt, Instr.sureAddr, Sem.run_bind, Sem.run_pure, Result.andThen_ok] at h3'
          have hr1 : (resM a (.cell c t)).run P w = .ok u w := by
            simp only [resM, Sem.run_bind, hp2', asAddr, Sem.run_pure, Result.andThen_ok, h3']
          simp only [List.mapM_cons, Sem.run_bind, Sem.run_pure, Result.andThen_ok, hr1, h1]
        · cases e
      · cases e

def envOf (fn : Func) (args : List AV) : List AV := args ++ List.replicate (fn.ntmps - args.length) (.tup [])
/-- One function, whose callees are told by Φ. -/
def evFn (P : Program) (E : Eqs) (fuel : Nat) (Φ : Orc) (fn : Func) (args : List AV) (h : Heap) : Option (AV × Heap × Nat) :=
  match fn.body with
  | none => none
  | some c => match evC P E Φ fuel c ⟨envOf fn args, h, h.length⟩ with
    | some (.normal, s) | some (.ret, s) => (resA P s.h s.env fn.results.toList).map fun vs => (oneOf vs, s.h, s.lw)
    | _ => none
/-- All that a function calls, so many calls deep. -/
def evF (P : Program) (E : Eqs) (fuel : Nat) (base : Orc) : Nat → Orc
  | 0 => base
  | n + 1 => fun f args h => match base f args h with
    | some r => some r
    | none => match P.funcs[f]? with
      | some fn => if fn.name == "runtime.NumGoroutine" then none else evFn P E fuel (evF P E fuel base n) fn args h
      | none => none

theorem enters_of' {P : Program} {f : FuncId} {fn : Func} {c : Code} (hf : P.funcs[f]? = some fn) (hname : (fn.name == "runtime.NumGoroutine") = false) (hb : fn.body = some c) : EntersP P f := by
  intro args w
  have : ¬ fn.name = "runtime.NumGoroutine" := by simpa using hname
  simp [callFunc, hf, this, hb]

/-- From a body to a call. -/
theorem SoundF.of_code {P : Program} {f : FuncId} {fn : Func} {c : Code} (hf : P.funcs[f]? = some fn) (hb : fn.body = some c) {args : List AV} {h : Heap} {lw0 : Nat} {R : AV → Heap → Prop} (lw : Nat)
    (hc : CodeR P c ⟨envOf fn args, h, lw0⟩ fun x s => (x = .normal ∨ x = .ret) ∧ lw ≤ s.lw ∧ ∃ vs, resA P s.h s.env fn.results.toList = some vs ∧ R (oneOf vs) s.h) : SoundF P f args h lw R := by
  intro L w vs hs hr
  refine calls_of_wp hf hb (hc L _ w _ hs ?_ ?_)
  · have hsz := hr.size
    simp only [envOf, Array.toList_append, Array.toList_replicate, hsz]
    exact hr.append (RVs.replicate (x := .tup []) (v := undef) ⟨#[], rfl, by simp [RVs]⟩ _)
  · rintro x s a' w' L' ⟨hx, hlw, us, hres, hR⟩ t k _ r d
    obtain ⟨rs, h1, h2⟩ := resA_run (P := P) t.sat r hres
    have hrun : (results fn a'.tmps).run P w' = .ok (if h : rs.toArray.size = 1 then rs.toArray[0] else .tuple rs.toArray) w' := by
      unfold results
      simp only [Sem.run_bind]
      have : (fn.results.mapM (resM a')).run P w' = .ok rs.toArray w' := by
        rw [Array.mapM_eq_mapM_toList, Sem.run_map, h1]
        rfl
      have e1 : ((fn.results.mapM (resM a')).run P w').andThen (fun vs w'' => (pure (if h : vs.size = 1 then vs[0] else Value.tuple vs) : Sem Value).run P w'') = .ok (if h : rs.toArray.size = 1 then rs.toArray[0] else .tuple rs.toArray) w' := by
        rw [this]; rfl
      exact e1
    have hv : RV L' (oneOf us) (if h : rs.toArray.size = 1 then rs.toArray[0] else .tuple rs.toArray) := by
      match us, rs, h2 with
      | [], [], _ => exact ⟨#[], rfl, by simp [RVs]⟩
      | [u], [v], h2 => simp only [RVs] at h2; simpa [oneOf] using h2.1
      | u1 :: u2 :: us, v1 :: v2 :: rs, h2 => exact ⟨(v1 :: v2 :: rs).toArray, by simp, by simpa using h2⟩
      | [], _ :: _, h2 => simp [RVs] at h2
      | _ :: _, [], h2 => simp [RVs] at h2
      | [_], _ :: _ :: _, h2 => simp [RVs] at h2
      | _ :: _ :: _, [_], h2 => simp [RVs] at h2
    have hpost : a'.defers = [] ∧ ∃ v, (results fn a'.tmps).run P w' = .ok v w' ∧ ∃ r h' L' v0, R r h' ∧ Ending.returned v = .returned v0 ∧ RV L' r v0 ∧ Stps L h w L' h' w' ∧ Kept lw L w L' w' :=
      ⟨d, _, hrun, _, _, L', _, hR, rfl, hv, t, k.less hlw⟩
    rcases hx with rfl | rfl
    · exact hpost
    · exact hpost

theorem evFn_ok {P : Program} {E : Eqs} (hE : EqsOk P E) (hmix : P.follows .mixedOrders = true) {fuel : Nat} {Φ : Orc} (hΦ : OrcOk P Φ) {f : FuncId} {fn : Func} (hf : P.funcs[f]? = some fn) (hname : (fn.name == "runtime.NumGoroutine") = false)
    {args : List AV} {h h' : Heap} {r : AV} {lw : Nat} (e : evFn P E fuel Φ fn args h = some (r, h', lw)) : OrcAt P f args h r h' lw := by
  unfold evFn at e
  split at e
  case h_1 => cases e
  rename_i c hb
  have fin : ∀ {x : Ex} {s : St}, (x = .normal ∨ x = .ret) → evC P E Φ fuel c ⟨envOf fn args, h, h.length⟩ = some (x, s) → ((resA P s.h s.env fn.results.toList).map fun vs => (oneOf vs, s.h, s.lw)) = some (r, h', lw) → OrcAt P f args h r h' lw := by
    intro x s hx he e
    obtain ⟨vs, hvs, e⟩ := Option.map_eq_some_iff.1 e
    cases e
    have hrun := evC_run hE hΦ hmix fuel he
    have hlow := evC_low hΦ fuel he
    refine ⟨enters_of' hf hname hb, SoundF.of_code hf hb s.lw (hrun.mono ?_), hlow.2.2, hlow.2.1⟩
    rintro x0 s0 ⟨rfl, rfl⟩
    exact ⟨hx, Nat.le_refl _, vs, hvs, rfl, rfl⟩
  split at e
  · rename_i s he; exact fin (.inl rfl) he e
  · rename_i s he; exact fin (.inr rfl) he e
  · cases e
theorem evF_ok {P : Program} {E : Eqs} (hE : EqsOk P E) (hmix : P.follows .mixedOrders = true) {fuel : Nat} {base : Orc} (hb : OrcOk P base) : ∀ n, OrcOk P (evF P E fuel base n) := by
  intro n
  induction n with
  | zero => exact hb
  | succ n ih =>
    intro f args h r h' lw e
    simp only [evF] at e
    split at e
    · rename_i q hq
      cases e
      exact hb _ _ _ _ _ _ hq
    · split at e
      · rename_i fn hf
        split at e
        · cases e
        · rename_i hn
          exact evFn_ok hE hmix ih hf (by simpa using hn) e
      · cases e
def noOrc : Orc := fun _ _ _ => none
theorem noOrc_ok (P : Program) : OrcOk P noOrc := fun _ _ _ _ _ _ e => by cases e
end Go.Proofs.YtgcdpdkccaabcaaGreat.Ev
