/- Pieces of code, told from the function's beginning on; the state may be made plain between them. Conditions: none (definitions and lemmas). -/
import Derived.Test.YtgcdpdkccaabcaaGreatEvQ
import Derived.Test.YtgcdpdkccaabcaaGreatEvP
namespace Go.Proofs.YtgcdpdkccaabcaaGreat.Ev
open Go
set_option linter.unusedVariables false
set_option linter.unusedSimpArgs false
set_option linter.unusedSectionVars false

/-- A piece of code in a function that began at h0: what it comes to. -/
def CodeB (P : Program) (h0 : Heap) (c : Code) (s : St) (R : Ex → St → Prop) : Prop :=
  ∀ (L0 : LC) (w0 : World) (L : LC) (a : Act) (w : World) (Q : Exit → Act → World → Prop), SatH L0 h0 w0 → At L0 h0 w0 s L a w →
    (∀ x s' a' w' L', R x s' → At L0 h0 w0 s' L' a' w' → a'.defers = a.defers → Q x.real a' w') → c.wp P Q a w

theorem At.next {L0 : LC} {h0 : Heap} {w0 : World} {s s' : St} {L L' : LC} {a a' : Act} {w w' : World} (at0 : At L0 h0 w0 s L a w) (t : Stps L s.h w L' s'.h w') (k : Kept s'.lw L w L' w') (hl : s'.lw ≤ s.lw)
    (low : ∀ id, id < s'.lw → id < s.h.length → s'.h[id]? = s.h[id]?) (e : RVs L' s'.env a'.tmps.toList) : At L0 h0 w0 s' L' a' w' :=
  ⟨at0.steps.trans t, at0.kept.trans k hl (Nat.le_refl _), fun id h1 h2 => (low id h1 (Nat.lt_of_lt_of_le h2 at0.steps.len)).trans (at0.low id (by omega) h2), e⟩

section
variable {P : Program} {E : Eqs} (hE : EqsOk P E) {Φ : Orc} (hΦ : OrcOk P Φ) (hmix : P.follows .mixedOrders = true) {h0 : Heap}
theorem CodeB.mono {c : Code} {s : St} {R R' : Ex → St → Prop} (h : CodeB P h0 c s R) (hr : ∀ x s', R x s' → R' x s') : CodeB P h0 c s R' :=
  fun L0 w0 L a w Q h1 h2 hQ => h L0 w0 L a w Q h1 h2 fun x s' a' w' L' r => hQ x s' a' w' L' (hr x s' r)
theorem CodeB.skip {s : St} {R : Ex → St → Prop} (h : R .normal s) : CodeB P h0 .skip s R := fun L0 w0 L a w Q h1 h2 hQ => wp_skip (hQ .normal s a w L h h2 rfl)
theorem CodeB.label {s : St} {R : Ex → St → Prop} {l : Nat} (h : R .normal s) : CodeB P h0 (.label l) s R := fun L0 w0 L a w Q h1 h2 hQ => wp_label (hQ .normal s a w L h h2 rfl)
theorem CodeB.exit {s : St} {R : Ex → St → Prop} {id : Nat} (h : R (.exit id) s) : CodeB P h0 (.exit id) s R := fun L0 w0 L a w Q h1 h2 hQ => wp_exit (hQ (.exit id) s a w L h h2 rfl)
theorem CodeB.ret {s : St} {R : Ex → St → Prop} (h : R .ret s) : CodeB P h0 .ret s R := fun L0 w0 L a w Q h1 h2 hQ => wp_ret (hQ .ret s a w L h h2 rfl)
theorem CodeB.seq {c d : Code} {s : St} {R : Ex → St → Prop} (h : CodeB P h0 c s fun x s' => match x with | .normal => CodeB P h0 d s' R | x => R x s') : CodeB P h0 (.seq c d) s R := by
  intro L0 w0 L a w Q h1 h2 hQ
  refine wp_seq (h L0 w0 L a w _ h1 h2 fun x s' a' w' L' r t hd => ?_)
  cases x with
  | normal => exact r L0 w0 L' a' w' Q h1 t fun x2 s2 a2 w2 L2 r2 t2 hd2 => hQ x2 s2 a2 w2 L2 r2 t2 (hd2.trans hd)
  | exit id => exact hQ (.exit id) s' a' w' L' r t hd
  | ret => exact hQ .ret s' a' w' L' r t hd
theorem CodeB.cond {x : Operand} {c d : Code} {s : St} {R : Ex → St → Prop} {b : Bool} (hb : evalA s.env x = .bool b) (h : CodeB P h0 (if b then c else d) s R) : CodeB P h0 (.cond x c d) s R := by
  intro L0 w0 L a w Q h1 h2 hQ
  have := evalA_rel h2.env x
  rw [hb] at this
  exact wp_cond (t := b) this (h L0 w0 L a w Q h1 h2 hQ)
theorem CodeB.block {id : Nat} {c : Code} {s : St} {R : Ex → St → Prop} (h : CodeB P h0 c s fun x s' => match x with | .exit i => if i = id then R .normal s' else R (.exit i) s' | x => R x s') : CodeB P h0 (.block id c) s R := by
  intro L0 w0 L a w Q h1 h2 hQ
  refine wp_block (h L0 w0 L a w _ h1 h2 fun x s' a' w' L' r t hd => ?_)
  cases x with
  | normal => exact hQ .normal s' a' w' L' r t hd
  | exit i =>
    simp only at r
    show (if i = id then Q .normal a' w' else Q (.exit i) a' w')
    by_cases hi : i = id
    · rw [if_pos hi] at r ⊢; exact hQ .normal s' a' w' L' r t hd
    · rw [if_neg hi] at r ⊢; exact hQ (.exit i) s' a' w' L' r t hd
  | ret => exact hQ .ret s' a' w' L' r t hd
theorem CodeB.scope {c : Code} {s : St} {R : Ex → St → Prop} (h : CodeB P h0 c s R) : CodeB P h0 (.scope c) s R := by
  intro L0 w0 L a w Q h1 h2 hQ
  refine wp_scope_straight (h L0 w0 L a w _ h1 h2 fun x s' a' w' L' r t hd => ?_)
  cases x <;> exact hQ _ s' a' w' L' r t hd
/-- A loop: the states of its rounds, each with a measure. -/
theorem CodeB.loop {c : Code} (I : Nat → St → Prop) (m : Nat) {s : St} {R : Ex → St → Prop} (hs : I m s) (round : ∀ m s, I m s → CodeB P h0 c s fun x s' => match x with | .normal => ∃ m', m' < m ∧ I m' s' | x => R x s') : CodeB P h0 (.loop c) s R := by
  intro L0 w0 L a w Q h1 h2 hQ
  refine wp_loop_rounds (m + 1) ?_
  have key : ∀ (n m : Nat) (s : St) (L : LC) (a : Act) (w : World), I m s → m < n → At L0 h0 w0 s L a w →
      (∀ x s' a' w' L', R x s' → At L0 h0 w0 s' L' a' w' → a'.defers = a.defers → Q x.real a' w') → Code.rounds P c Q n a w := by
    intro n
    induction n with
    | zero => intro m s L a w _ h; omega
    | succ n ih =>
      intro m s L a w hi hm h2 hQ
      rw [rounds_succ]
      refine round m s hi L0 w0 L a w _ h1 h2 fun x s' a' w' L' r t hd => ?_
      cases x with
      | normal =>
        obtain ⟨m', hm', hi'⟩ := r
        exact ih m' s' L' a' w' hi' (by omega) t fun x2 s2 a2 w2 L2 r2 t2 hd2 => hQ x2 s2 a2 w2 L2 r2 t2 (hd2.trans hd)
      | exit id => exact hQ (.exit id) s' a' w' L' r t hd
      | ret => exact hQ .ret s' a' w' L' r t hd
  exact key _ m s L a w hs (Nat.lt_succ_self _) h2 hQ
theorem CodeB.region (hE : EqsOk P E) (hΦ : OrcOk P Φ) {rid : Nat} {ops : Array Oper} {s : St} {R : Ex → St → Prop} {q : List AV × Heap × Nat} (e : evOps P E Φ ops.toList ops.toList s.env s.h s.lw = some q) (h : R .normal (stOf q)) : CodeB P h0 (.region rid ops false) s R :=
  fun L0 w0 L a w Q h1 h2 hQ => wp_region_list (evOps_run hE hΦ ops.toList e h2.steps.sat h2.env fun a' w' L' t k r d => hQ .normal (stOf q) a' w' L' h (h2.next t k (evOps_low hΦ _ e).1 (evOps_low hΦ _ e).2.2 r) d)
theorem CodeB.draw (hE : EqsOk P E) (hΦ : OrcOk P Φ) (hmix : P.follows .mixedOrders = true) {rid : Nat} {ops : Array Oper} {s : St} {R : Ex → St → Prop} {q : List AV × Heap × Nat} (e : evDraw P E Φ ops.toList ops.toList [] [] s.env s.h s.lw = some q) (h : R .normal (stOf q)) : CodeB P h0 (.region rid ops true) s R :=
  fun L0 w0 L a w Q h1 h2 hQ => evDraw_run hE hΦ hmix e h2.steps.sat h2.env fun a' w' L' t k r d => hQ .normal (stOf q) a' w' L' h (h2.next t k (evDraw_low hΦ _ e).1 (evDraw_low hΦ _ e).2.2 r) d
theorem CodeB.run (hE : EqsOk P E) (hΦ : OrcOk P Φ) (hmix : P.follows .mixedOrders = true) {n : Nat} {c : Code} {s s' : St} {x : Ex} {R : Ex → St → Prop} (e : evC P E Φ n c s = some (x, s')) (h : R x s') : CodeB P h0 c s R :=
  fun L0 w0 L a w Q h1 h2 hQ => evC_run hE hΦ hmix n e L a w Q h2.steps.sat h2.env fun x0 s0 a' w' L' r t k hl e2 hd => by
    obtain ⟨rfl, rfl⟩ := r
    have hlow := evC_low hΦ n e
    exact hQ x0 s0 a' w' L' h (h2.next t k hlow.1 hlow.2.2 e2) hd
/-- The state, made plain ahead of a piece. -/
theorem CodeB.gc {c : Code} {s : St} (s' : St) (σ : List Nat) {R : Ex → St → Prop} (hg : Gc h0.length s.lw σ s.h s'.h) (hlw : s'.lw = s.lw) (he : Frzs s.h h0.length σ s.env s'.env) (h : CodeB P h0 c s' R) : CodeB P h0 c s R :=
  fun L0 w0 L a w Q h1 h2 hQ => h L0 w0 _ a w Q h1 (h2.gc h1 hg hlw he) hQ
/-- A state is plainer than another. -/
def Pln (h0 : Heap) (s s' : St) : Prop := ∃ σ, Gc h0.length s.lw σ s.h s'.h ∧ s'.lw = s.lw ∧ Frzs s.h h0.length σ s.env s'.env
/-- The state, made plain behind a piece. -/
theorem CodeB.plain {c : Code} {s : St} {R R' : Ex → St → Prop} (h : CodeB P h0 c s R) (hr : ∀ x s', R x s' → ∃ s2, Pln h0 s' s2 ∧ R' x s2) : CodeB P h0 c s R' :=
  fun L0 w0 L a w Q h1 h2 hQ => h L0 w0 L a w Q h1 h2 fun x s' a' w' L' r t hd => by
    obtain ⟨s2, ⟨σ, hg, hlw, he⟩, r2⟩ := hr x s' r
    exact hQ x s2 a' w' _ r2 (t.gc h1 hg hlw he) hd
end

/-- The lowest block that turns may be told lower. -/
theorem At.lower {L0 : LC} {h0 : Heap} {w0 : World} {s : St} {L : LC} {a : Act} {w : World} (at0 : At L0 h0 w0 s L a w) {lw : Nat} (hl : lw ≤ s.lw) : At L0 h0 w0 { s with lw := lw } L a w :=
  ⟨at0.steps, at0.kept.less hl, fun id h1 h2 => at0.low id (Nat.lt_of_lt_of_le h1 hl) h2, at0.env⟩

/-- From a body to a call. -/
theorem OrcAt.of_body {P : Program} {f : FuncId} {fn : Func} {c : Code} (hf : P.funcs[f]? = some fn) (hname : (fn.name == "runtime.NumGoroutine") = false) (hb : fn.body = some c) {args : List AV} {h h' : Heap} {lw : Nat} {r : AV}
    (hlw0 : lw ≤ h.length) (hlow : ∀ id, id < lw → id < h.length → h'[id]? = h[id]?) (hlen : h.length ≤ h'.length)
    (hc : CodeB P h c ⟨envOf fn args, h, h.length⟩ fun x s => (x = .normal ∨ x = .ret) ∧ lw ≤ s.lw ∧ s.h = h' ∧ ∃ vs, resA P s.h s.env fn.results.toList = some vs ∧ oneOf vs = r) : OrcAt P f args h r h' lw := by
  refine ⟨enters_of' hf hname hb, ?_, hlow, hlen⟩
  refine SoundF.of_code hf hb (lw0 := h.length) lw ?_
  intro L a w Q hs he hQ
  refine hc L w L a w Q hs ⟨.refl hs, .refl _ _ _, fun _ _ _ => rfl, he⟩ fun x s' a' w' L' ⟨hx, hl, hh, vs, h1, h2⟩ t hd => ?_
  have hlw : min s'.lw h.length ≤ h.length := Nat.min_le_right _ _
  by_cases hle : s'.lw ≤ h.length
  · exact hQ x s' a' w' L' ⟨hx, hl, vs, h1, h2, hh⟩ t.steps t.kept hle t.env hd
  · have t2 := t.lower (lw := h.length) (by omega)
    exact hQ x { s' with lw := h.length } a' w' L' ⟨hx, hlw0, vs, h1, h2, hh⟩ t2.steps t2.kept (Nat.le_refl _) t2.env hd
/-- What a call comes to, made plain. -/
theorem SoundF.gc {P : Program} {f : FuncId} {args : List AV} {h : Heap} {lw : Nat} {R R' : AV → Heap → Prop} (k : SoundF P f args h lw R)
    (hr : ∀ r h1, R r h1 → (∀ id, id < lw → id < h.length → h1[id]? = h[id]?) ∧ ∃ σ r' h', Gc h.length lw σ h1 h' ∧ Frz h1 h.length σ r r' ∧ R' r' h') : SoundF P f args h lw R' := by
  intro L w vs hs hv
  refine (k L w vs hs hv).mono ?_
  rintro e w' ⟨r, h1, L', v, hR, rfl, hrv, st, kp⟩
  obtain ⟨low, σ, r', h', hg, hf, hR'⟩ := hr r h1 hR
  have at0 : At L h w ⟨[r], h1, lw⟩ L' ⟨#[v], []⟩ w' := ⟨st, kp, low, .cons hrv .nil⟩
  have at1 := at0.gc hs (s' := ⟨[r'], h', lw⟩) hg rfl (.cons hf .nil)
  have := at1.env
  simp only [RVs] at this
  exact ⟨r', h', _, v, hR', rfl, this.1, at1.steps, at1.kept⟩
/-- From a body to a call; the result and the heap made plain. -/
theorem OrcAt.of_bodyG {P : Program} {f : FuncId} {fn : Func} {c : Code} (hf : P.funcs[f]? = some fn) (hname : (fn.name == "runtime.NumGoroutine") = false) (hb : fn.body = some c) {args : List AV} {h h' : Heap} {lw : Nat} {r : AV}
    (hlw0 : lw ≤ h.length) (hlow : ∀ id, id < lw → id < h.length → h'[id]? = h[id]?) (hlen : h.length ≤ h'.length)
    (hc : CodeB P h c ⟨envOf fn args, h, h.length⟩ fun x s => (x = .normal ∨ x = .ret) ∧ lw ≤ s.lw ∧ ∃ vs σ, resA P s.h s.env fn.results.toList = some vs ∧ Gc h.length lw σ s.h h' ∧ Frz s.h h.length σ (oneOf vs) r) : OrcAt P f args h r h' lw := by
  refine ⟨enters_of' hf hname hb, ?_, hlow, hlen⟩
  refine SoundF.gc (R := fun r0 h1 => (∀ id, id < lw → id < h.length → h1[id]? = h[id]?) ∧ ∃ σ, Gc h.length lw σ h1 h' ∧ Frz h1 h.length σ r0 r) ?_ fun r0 h1 ⟨k1, σ, k2, k3⟩ => ⟨k1, σ, r, h', k2, k3, rfl, rfl⟩
  refine SoundF.of_code hf hb (lw0 := h.length) lw ?_
  intro L a w Q hs he hQ
  refine hc L w L a w Q hs ⟨.refl hs, .refl _ _ _, fun _ _ _ => rfl, he⟩ fun x s' a' w' L' ⟨hx, hl, vs, σ, h1, h2, h3⟩ t hd => ?_
  have low : ∀ id, id < lw → id < h.length → s'.h[id]? = h[id]? := fun id k1 k2 => t.low id (by omega) k2
  by_cases hle : s'.lw ≤ h.length
  · exact hQ x s' a' w' L' ⟨hx, hl, vs, h1, low, σ, h2, h3⟩ t.steps t.kept hle t.env hd
  · have t2 := t.lower (lw := h.length) (by omega)
    exact hQ x { s' with lw := h.length } a' w' L' ⟨hx, hlw0, vs, h1, low, σ, h2, h3⟩ t2.steps t2.kept (Nat.le_refl _) t2.env hd
/-- From an empty heap, to an empty heap. -/
theorem OrcAt.of_body0 {P : Program} {f : FuncId} {fn : Func} {c : Code} (hf : P.funcs[f]? = some fn) (hname : (fn.name == "runtime.NumGoroutine") = false) (hb : fn.body = some c) {args : List AV} {r : AV}
    (hc : CodeB P [] c ⟨envOf fn args, [], 0⟩ fun x s => (x = .normal ∨ x = .ret) ∧ ∃ vs, resA P s.h s.env fn.results.toList = some vs ∧ Frz s.h 0 [] (oneOf vs) r) : OrcAt P f args [] r [] 0 :=
  .of_bodyG hf hname hb (Nat.le_refl _) (fun _ h => by omega) (Nat.le_refl _) (hc.mono fun x s ⟨hx, vs, h1, h2⟩ => ⟨hx, Nat.zero_le _, vs, [], h1, ⟨rfl, List.nodup_nil, Nat.zero_le _, fun _ h => by simp at h, fun _ h => by simp at h, fun j id h => by simp at h⟩, h2⟩)
end Go.Proofs.YtgcdpdkccaabcaaGreat.Ev
