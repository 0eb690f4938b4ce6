/- Calls, and regions whose order is fixed. Conditions: none (definitions and lemmas). -/
import Derived.Test.YtgcdpdkccaabcaaGreatEvJ
namespace Go.Proofs.YtgcdpdkccaabcaaGreat.Ev
open Go
set_option linter.unusedVariables false
set_option linter.unusedSimpArgs false
set_option linter.unusedSectionVars false

def EntersP (P : Program) (f : FuncId) : Prop := ∀ (args : Array Value) (w : World), (callFunc f args).run P w = .ok (.enter f args) w
/-- Steps that turn no block below a number. -/
structure Kept (lw : Nat) (L : LC) (w : World) (L' : LC) (w' : World) : Prop where
  keep : ∀ id p, id < lw → L.ρ id = some p → L'.ρ id = some p ∧ w'.heap[p.b]? = w.heap[p.b]?
theorem Kept.refl (lw : Nat) (L : LC) (w : World) : Kept lw L w L w := ⟨fun _ _ _ e => ⟨e, rfl⟩⟩
theorem Kept.trans {a b : Nat} {L1 L2 L3 : LC} {w1 w2 w3 : World} (h : Kept a L1 w1 L2 w2) (k : Kept b L2 w2 L3 w3) {c : Nat} (ha : c ≤ a) (hb : c ≤ b) : Kept c L1 w1 L3 w3 :=
  ⟨fun id p hid e => by
    obtain ⟨e1, e2⟩ := h.keep id p (by omega) e
    obtain ⟨e3, e4⟩ := k.keep id p (by omega) e1
    exact ⟨e3, e4.trans e2⟩⟩
theorem Kept.less {a b : Nat} {L L' : LC} {w w' : World} (h : Kept a L w L' w') (hb : b ≤ a) : Kept b L w L' w' := ⟨fun id p hid e => h.keep id p (by omega) e⟩
/-- What a call comes to, whatever the world in which the abstract heap lies; nothing below 'lw' turns. -/
def SoundF (P : Program) (f : FuncId) (args : List AV) (h : Heap) (lw : Nat) (R : AV → Heap → Prop) : Prop :=
  ∀ (L : LC) (w : World) (vs : Array Value), SatH L h w → RVs L args vs.toList →
    Calls P f vs w fun e w' => ∃ r h' L' v, R r h' ∧ e = .returned v ∧ RV L' r v ∧ Stps L h w L' h' w' ∧ Kept lw L w L' w'
theorem SoundF.mono {P : Program} {f : FuncId} {args : List AV} {h : Heap} {lw : Nat} {R R' : AV → Heap → Prop} (k : SoundF P f args h lw R) (hr : ∀ r h', R r h' → R' r h') : SoundF P f args h lw R' :=
  fun L w vs hs hv => (k L w vs hs hv).mono fun _ _ ⟨r, h', L', v, q, rest⟩ => ⟨r, h', L', v, hr r h' q, rest⟩

/-- What is known of calls: the result, the heap, and below which number no block has turned. -/
abbrev Orc := FuncId → List AV → Heap → Option (AV × Heap × Nat)
structure OrcAt (P : Program) (f : FuncId) (args : List AV) (h : Heap) (r : AV) (h' : Heap) (lw : Nat) : Prop where
  enters : EntersP P f
  sound : SoundF P f args h lw fun r0 h0 => r0 = r ∧ h0 = h'
  low : ∀ id, id < lw → id < h.length → h'[id]? = h[id]?
  len : h.length ≤ h'.length
def OrcOk (P : Program) (Φ : Orc) : Prop := ∀ f args h r h' lw, Φ f args h = some (r, h', lw) → OrcAt P f args h r h' lw

def calleeA (env : List AV) (c : Call) : Option (FuncId × List AV) :=
  match c.callee with
  | .value g => match evalA env g with
    | .fn f first cap => some (f, first ++ (c.args.toList.map (evalA env)) ++ cap)
    | _ => none
  | _ => none
def isBuiltin (c : Call) : Bool := match c.callee with | .builtin _ => true | _ => false
/-- What is touched: named blocks; or all that a call may touch. -/
structure EffX where
  e : Eff
  all : Bool
  wall : Option Nat
/-- Which blocks a call may have written: none, or those from a number on. -/
def callW (n lw : Nat) : Option Nat := if n ≤ lw then none else some lw
/-- Which blocks turn. -/
def EffX.mods (x : EffX) (id : Nat) : Prop := id ∈ x.e.wr ∨ ∃ n, x.wall = some n ∧ n ≤ id
def EffX.fp (x : EffX) (id : Nat) : Prop := x.e.fp id ∨ x.all = true ∨ ∃ n, x.wall = some n ∧ n ≤ id
def lowOf (lw : Nat) (e : Eff) : Nat := e.wr.foldl min lw
/-- One operation: the value, the heap, the lowest block that was written, what was touched. -/
def stepOp (P : Program) (E : Eqs) (Φ : Orc) (env : List AV) (h : Heap) (lw : Nat) (op : Op) : Option (AV × Heap × Nat × EffX) :=
  match op with
  | .call c =>
    if isBuiltin c then (dirOp P E env h (.call c)).map fun q => (q.1, q.2.1, lowOf lw q.2.2, ⟨q.2.2, false, none⟩)
    else match calleeA env c with
      | some (f, args) => (Φ f args h).map fun q => (q.1, q.2.1, min lw q.2.2, ⟨.none, true, callW h.length q.2.2⟩)
      | none => none
  | op => (dirOp P E env h op).map fun q => (q.1, q.2.1, lowOf lw q.2.2, ⟨q.2.2, false, none⟩)

/-- An operation, carried out: it yields a value, or enters a call that does. -/
def Yield (P : Program) (o : Oper) (a : Act) (w : World) (R : Value → World → Prop) : Prop :=
  ∀ (next : Act → World → Prop) (Q : Exit → Act → World → Prop), (∀ r w', R r w' → next (a.put o.dst r) w') → o.wp P a w next Q

theorem Stps.stp {L L' : LC} {h h' : Heap} {w w' : World} {lw : Nat} (s : SatH L h w) (t : Stps L h w L' h' w') (k : Kept lw L w L' w') (low : ∀ id, id < lw → id < h.length → h'[id]? = h[id]?) (fp : Nat → Prop) (hfp : ∀ id, ¬ fp id → id < h.length → id < lw) : Stp fp L h w L' h' w' := by
  have dec : ∀ id, fp id ∨ ¬ fp id := fun id => Classical.em _
  refine ⟨t.le, ⟨t.os, t.tape, t.output, t.size, fun b hb hn => ?_⟩, t.len, fun id hid hn => low id (hfp id hn hid) hid, fun id p e => ?_, fun id p e => ?_, fun id d => ?_, fun b c e => ?_, t.sat.weaken fun _ _ => trivial⟩
  · by_cases hb2 : ∃ id p, L.ρ id = some p ∧ p.b = b
    · obtain ⟨id, p, e, rfl⟩ := hb2
      have hnf : ¬ fp id := fun f => hn id p f e rfl
      exact (k.keep id p (hfp id hnf (s.lt id p e)) e).2
    · exact t.keep b hb fun id p e hp => hb2 ⟨id, p, e, hp⟩
  · rcases dec id with f | f
    · exact (t.le.ρ id p e).imp (fun x => x) fun d => ⟨f, d⟩
    · exact .inl (k.keep id p (hfp id f (s.lt id p e)) e).1
  · rcases t.orig id p e with e' | ⟨hl, q | ⟨i, r, ei, hr⟩⟩
    · exact .inl e'
    · exact .inr ⟨hl, .inl q⟩
    · rcases dec i with f | f
      · exact .inr ⟨hl, .inr ⟨i, r, f, ei, hr⟩⟩
      · have ki := (k.keep i r (hfp i f (s.lt i r ei)) ei).1
        have := t.sat.inj _ _ _ _ ki e hr
        have hi := s.lt i r ei
        omega
  · rcases t.newdead id d with d' | ⟨p, e⟩ | hl
    · exact .inl d'
    · rcases dec id with f | f
      · exact .inr (.inl ⟨f, p, e⟩)
      · exact absurd d (t.sat.alive id p (k.keep id p (hfp id f (s.lt id p e)) e).1)
    · exact .inr (.inr hl)
  · rcases t.newm b c e with e' | q | ⟨i, r, ei, hr⟩
    · exact .inl e'
    · exact .inr (.inl q)
    · rcases dec i with f | f
      · exact .inr (.inr ⟨i, r, f, ei, hr⟩)
      · have ki := (k.keep i r (hfp i f (s.lt i r ei)) ei).1
        have := t.sat.not_m i r ki
        rw [hr, e] at this
        cases this

theorem resolve_value {P : Program} {a : Act} {c : Call} {g : Operand} (hc : c.callee = .value g) {f : FuncId} {v1 v2 : Array Value} (hg : a.eval g = .func (.func f) v1 v2) (hen : EntersP P f) (dst : Option Tmp) (ty : TypeId) (pos : String) (after : Array Edge) (guard : Option (Nat × Bool)) (w : World) :
    (execOp a.eval ⟨dst, .call c, ty, pos, after, guard⟩).run P w = .ok (.enter f (v1 ++ c.args.map a.eval ++ v2)) w := by
  simp only [execOp, resolve, hc, hg, Deferred.ofValue, Sem.run_bind, Sem.run_pure, Result.andThen_ok, invoke]
  exact hen _ w

theorem lowOf_le (e : List Nat) : ∀ (lw : Nat), e.foldl min lw ≤ lw ∧ ∀ id ∈ e, e.foldl min lw ≤ id := by
  induction e with
  | nil => intro lw; exact ⟨Nat.le_refl _, fun _ h => by cases h⟩
  | cons x e ih =>
    intro lw
    simp only [List.foldl_cons]
    obtain ⟨h1, h2⟩ := ih (min lw x)
    refine ⟨Nat.le_trans h1 (Nat.min_le_left _ _), fun id hid => ?_⟩
    rcases List.mem_cons.1 hid with rfl | hid
    · exact Nat.le_trans h1 (Nat.min_le_right _ _)
    · exact h2 id hid
theorem stepOp_run {P : Program} {E : Eqs} (hE : EqsOk P E) {Φ : Orc} (hΦ : OrcOk P Φ) {fp : Nat → Prop} {L : LC} {env : List AV} {h h' : Heap} {lw lw' : Nat} {w : World} {a : Act} {o : Oper} (henv : OpsR L env a o.op.operands) {z : AV} {eff : EffX}
    (e : stepOp P E Φ env h lw o.op = some (z, h', lw', eff)) (s : SatOn fp L h w) (hfp : ∀ id, eff.fp id → fp id) :
    Yield P o a w fun r w' => ∃ L', Stp eff.mods L h w L' h' w' ∧ Kept lw' L w L' w' ∧ RV L' z r := by
  have direct : ∀ {q : AV × Heap × Eff}, dirOp P E env h o.op = some q → z = q.1 → h' = q.2.1 → lw' = lowOf lw q.2.2 → eff = ⟨q.2.2, false, none⟩ → Yield P o a w fun r w' => ∃ L', Stp eff.mods L h w L' h' w' ∧ Kept lw' L w L' w' ∧ RV L' z r := by
    intro q hq e1 e2 e2' e3 next Q hK
    subst e1; subst e2; subst e2'; subst e3
    obtain ⟨n, w', L', r, h1, h2, h3, h4⟩ := dirOp_run hE s henv (z := q.1) (h' := q.2.1) (eff := q.2.2) hq (fun id hid => hfp id (.inl hid))
    have st : Stp (EffX.mods ⟨q.2.2, false, none⟩) L h w L' q.2.1 w' := h3.wider s (fun id hid => .inl hid) (fun id hid => hfp id (hid.elim (fun k => .inl (.inr k)) fun ⟨_, k, _⟩ => by cases k))
    have kp : Kept (lowOf lw q.2.2) L w L' w' := ⟨fun id p hid e => by
      have hnw : id ∉ q.2.2.wr := fun k => by
        have h2 := (lowOf_le q.2.2.wr lw).2 id k
        have h3 : id < q.2.2.wr.foldl min lw := hid
        omega
      refine ⟨(h3.keepρ id p e).resolve_right fun k => hnw k.1, h3.fr.keep p.b (s.big id p e) fun i r hi ei hb => ?_⟩
      have := s.inj _ _ _ _ ei e hb
      exact hnw (this ▸ hi)⟩
    rcases h2 with rfl | ⟨rfl, rfl⟩
    · show o.upon P a next Q ((execOp a.eval o).run P w)
      rw [h1]
      exact hK r w' ⟨L', st, kp, h4⟩
    · show o.upon P a next Q ((execOp a.eval o).run P w)
      rw [h1]
      exact hK undef w' ⟨L', st, kp, h4⟩
  obtain ⟨dst, op, ty, pos, after, guard⟩ := o
  simp only at e henv direct
  cases op
  case call c =>
    simp only [stepOp] at e
    by_cases hb : isBuiltin c = true
    · rw [if_pos hb] at e
      obtain ⟨q, hq, e⟩ := Option.map_eq_some_iff.1 e
      cases e
      exact direct hq rfl rfl rfl rfl
    · rw [if_neg hb] at e
      cases hc : calleeA env c with
      | none => simp [hc] at e
      | some fa =>
        obtain ⟨f, args⟩ := fa
        simp only [hc] at e
        obtain ⟨q, hq, e⟩ := Option.map_eq_some_iff.1 e
        cases e
        obtain ⟨r0, h0, lw0⟩ := q
        have ho := hΦ f args h r0 h0 lw0 hq
        unfold calleeA at hc
        split at hc
        case h_2 => cases hc
        rename_i g hg
        split at hc
        case h_2 => cases hc
        rename_i f' first cap hgv
        cases hc
        have hgr := henv g (by simp [Op.operands, Call.operands, hg])
        rw [hgv] at hgr
        obtain ⟨v1, v2, hge, hr1, hr2⟩ := hgr
        have hargs : RVs L (first ++ c.args.toList.map (evalA env) ++ cap) (v1 ++ c.args.map a.eval ++ v2).toList := by
          simp only [Array.toList_append, Array.toList_map]
          exact (hr1.append (evals_rel _ fun x hx => henv x (by simp [Op.operands, Call.operands]; exact .inr (by simpa using hx)))).append hr2
        have hsat : SatH L h w := s.weaken fun id _ => hfp id (.inr (.inl rfl))
        intro next Q hK
        show Oper.upon P _ a next Q ((execOp a.eval _).run P w)
        rw [resolve_value hg hge ho.enters, Oper.upon_enter]
        refine (ho.sound L w _ hsat hargs).mono ?_
        rintro e w' ⟨r, h1, L', v, ⟨rfl, rfl⟩, rfl, hv, st, kp⟩
        refine hK v w' ⟨L', st.stp hsat kp ho.low _ fun id hn hid => ?_, kp.less (Nat.min_le_right _ _), hv⟩
        refine Decidable.byContradiction fun k => hn (.inr ⟨lw0, ?_, by omega⟩)
        show callW h.length lw0 = some lw0
        unfold callW
        rw [if_neg (by omega)]
  all_goals
    simp only [stepOp] at e
    obtain ⟨q, hq, e⟩ := Option.map_eq_some_iff.1 e
    cases e
    exact direct hq rfl rfl rfl rfl

theorem stepOp_len {P : Program} {E : Eqs} {Φ : Orc} (hΦ : OrcOk P Φ) {env : List AV} {h h' : Heap} {lw lw' : Nat} {op : Op} {z : AV} {eff : EffX} (e : stepOp P E Φ env h lw op = some (z, h', lw', eff)) : h.length ≤ h'.length := by
  cases op
  case call c =>
    simp only [stepOp] at e
    split at e
    · obtain ⟨q, hq, e⟩ := Option.map_eq_some_iff.1 e
      cases e
      exact dirOp_len hq
    · split at e
      · obtain ⟨q, hq, e⟩ := Option.map_eq_some_iff.1 e
        cases e
        exact (hΦ _ _ _ _ _ _ hq).len
      · cases e
  all_goals
    simp only [stepOp] at e
    obtain ⟨q, hq, e⟩ := Option.map_eq_some_iff.1 e
    cases e
    exact dirOp_len hq
theorem stepOp_mod {P : Program} {E : Eqs} {Φ : Orc} (hΦ : OrcOk P Φ) {env : List AV} {h h' : Heap} {lw lw' : Nat} {op : Op} {z : AV} {eff : EffX} (e : stepOp P E Φ env h lw op = some (z, h', lw', eff)) {id : Nat} (hid : id < h.length) (hn : ¬ eff.mods id) : h'[id]? = h[id]? := by
  cases op
  case call c =>
    simp only [stepOp] at e
    split at e
    · obtain ⟨q, hq, e⟩ := Option.map_eq_some_iff.1 e
      cases e
      exact dirOp_mod hq hid fun k => hn (.inl k)
    · split at e
      · obtain ⟨q, hq, e⟩ := Option.map_eq_some_iff.1 e
        cases e
        obtain ⟨q1, q2, q3⟩ := q
        refine (hΦ _ _ _ _ _ _ hq).low id (Decidable.byContradiction fun k => hn (.inr ⟨q3, ?_, by omega⟩)) hid
        show callW h.length q3 = some q3
        unfold callW
        rw [if_neg (by omega)]
      · cases e
  all_goals
    simp only [stepOp] at e
    obtain ⟨q, hq, e⟩ := Option.map_eq_some_iff.1 e
    cases e
    exact dirOp_mod hq hid fun k => hn (.inl k)
theorem stepOp_low {P : Program} {E : Eqs} {Φ : Orc} (hΦ : OrcOk P Φ) {env : List AV} {h h' : Heap} {lw lw' : Nat} {op : Op} {z : AV} {eff : EffX} (e : stepOp P E Φ env h lw op = some (z, h', lw', eff)) : lw' ≤ lw ∧ ∀ id, id < lw' → id < h.length → h'[id]? = h[id]? := by
  cases op
  case call c =>
    simp only [stepOp] at e
    split at e
    · obtain ⟨q, hq, e⟩ := Option.map_eq_some_iff.1 e
      cases e
      exact ⟨(lowOf_le _ _).1, fun id hl hid => dirOp_mod hq hid fun k => by have h2 := (lowOf_le q.2.2.wr lw).2 id k; have h3 : id < q.2.2.wr.foldl min lw := hl; omega⟩
    · split at e
      · obtain ⟨q, hq, e⟩ := Option.map_eq_some_iff.1 e
        cases e
        exact ⟨Nat.min_le_left _ _, fun id hl hid => (hΦ _ _ _ _ _ _ hq).low id (Nat.lt_of_lt_of_le hl (Nat.min_le_right _ _)) hid⟩
      · cases e
  all_goals
    simp only [stepOp] at e
    obtain ⟨q, hq, e⟩ := Option.map_eq_some_iff.1 e
    cases e
    exact ⟨(lowOf_le _ _).1, fun id hl hid => dirOp_mod hq hid fun k => by have h2 := (lowOf_le q.2.2.wr lw).2 id k; have h3 : id < q.2.2.wr.foldl min lw := hl; omega⟩

/-! ### guards -/
def wantedA (ops : List Oper) (env : List AV) (o : Oper) : Option Bool :=
  match o.guard with
  | none => some true
  | some (j, want) => match (ops[j]?).bind (·.dst) with
    | none => some false
    | some t => match env[t]? with
      | none => some false
      | some (.bool b) => some (b == want)
      | some .any => none
      | some _ => some false
theorem wantedA_run {L : LC} {ops : Array Oper} {env : List AV} {a : Act} {o : Oper} {b : Bool} (h : wantedA ops.toList env o = some b) (hlen : env.length = a.tmps.size)
    (henv : ∀ j want t x, o.guard = some (j, want) → (ops[j]?).bind (·.dst) = some t → env[t]? = some x → ∃ v, a.tmps[t]? = some v ∧ RV L x v) : Region.wanted o (yielded ops a.tmps) = b := by
  unfold wantedA at h
  unfold Region.wanted
  split at h
  · rename_i hg; cases h; simp [hg]
  · rename_i j want hg
    simp only [hg]
    simp only [Array.getElem?_toList] at h
    cases ht : (ops[j]?).bind (·.dst) with
    | none =>
      simp only [ht, Option.some.injEq] at h
      subst h
      simp [yielded, ht]
    | some t =>
      simp only [ht] at h
      cases hx : env[t]? with
      | none =>
        simp only [hx, Option.some.injEq] at h
        subst h
        have : a.tmps.size ≤ t := by
          rw [← hlen]
          exact List.getElem?_eq_none_iff.1 hx
        simp [yielded, ht, this]
      | some x =>
        obtain ⟨v, hv, hr⟩ := henv j want t x hg ht hx
        simp only [hx] at h
        cases x <;> simp only [Option.some.injEq, reduceCtorEq] at h
        case bool c =>
          simp only [RV] at hr
          subst hr; subst h
          cases c <;> cases want <;> simp [yielded, ht, hv]
        all_goals
          subst h
          simp only [RV] at hr
          have hn : ∀ c, v ≠ .bool c := by
            intro c e
            subst e
            simp at hr
          have hy : yielded ops a.tmps j = none := by
            simp only [yielded, ht, Option.bind_some, hv]
            cases v <;> first | rfl | exact absurd rfl (hn _)
          rw [hy]
          cases want <;> rfl

def putA (env : List AV) (dst : Option Tmp) (v : AV) : List AV := match dst with | some d => env.set d v | none => env
theorem putA_rel {L : LC} {env : List AV} {a : Act} (h : RVs L env a.tmps.toList) (dst : Option Tmp) {x : AV} {v : Value} (hv : RV L x v) : RVs L (putA env dst x) (a.put dst v).tmps.toList := by
  cases dst with
  | none => exact h
  | some d => simp only [putA, Act.put, Array.toList_setIfInBounds]; exact h.set d hv
theorem put_defers (a : Act) (dst : Option Tmp) (v : Value) : (a.put dst v).defers = a.defers := by cases dst <;> rfl

/-- A region whose order is fixed. -/
def evOps (P : Program) (E : Eqs) (Φ : Orc) (ops : List Oper) : List Oper → List AV → Heap → Nat → Option (List AV × Heap × Nat)
  | [], env, h, lw => some (env, h, lw)
  | o :: rest, env, h, lw => match wantedA ops env o with
    | some true => match stepOp P E Φ env h lw o.op with
      | some (v, h', lw', _) => evOps P E Φ ops rest (putA env o.dst v) h' lw'
      | none => none
    | some false => evOps P E Φ ops rest (putA env o.dst (.tup [])) h lw
    | none => none

theorem RVs.getElem? {L : LC} {env : List AV} {a : Act} (h : RVs L env a.tmps.toList) {t : Nat} {x : AV} (hx : env[t]? = some x) : ∃ v, a.tmps[t]? = some v ∧ RV L x v := by
  obtain ⟨v, h1, h2⟩ := h.get_some hx
  exact ⟨v, by simpa using h1, h2⟩

theorem evOps_low {P : Program} {E : Eqs} {Φ : Orc} (hΦ : OrcOk P Φ) {ops : List Oper} : ∀ (l : List Oper) {env env' : List AV} {h h' : Heap} {lw lw' : Nat}, evOps P E Φ ops l env h lw = some (env', h', lw') →
    lw' ≤ lw ∧ h.length ≤ h'.length ∧ ∀ id, id < lw' → id < h.length → h'[id]? = h[id]? := by
  intro l
  induction l with
  | nil =>
    intro env env' h h' lw lw' e
    simp only [evOps, Option.some.injEq, Prod.mk.injEq] at e
    obtain ⟨rfl, rfl, rfl⟩ := e
    exact ⟨Nat.le_refl _, Nat.le_refl _, fun _ _ _ => rfl⟩
  | cons o l ih =>
    intro env env' h h' lw lw' e
    simp only [evOps] at e
    split at e
    · split at e
      · rename_i v h1 lw1 eff hst
        obtain ⟨g1, g2, g3⟩ := ih e
        obtain ⟨k1, k2⟩ := stepOp_low hΦ hst
        have k3 := stepOp_len hΦ hst
        exact ⟨Nat.le_trans g1 k1, Nat.le_trans k3 g2, fun id hl hid => (g3 id hl (by omega)).trans (k2 id (by omega) hid)⟩
      · cases e
    · exact ih e
    · cases e
theorem evOps_run {P : Program} {E : Eqs} (hE : EqsOk P E) {Φ : Orc} (hΦ : OrcOk P Φ) {ops : Array Oper} {Q : Exit → Act → World → Prop} : ∀ (l : List Oper) {env env' : List AV} {h h' : Heap} {lw lw' : Nat} {L : LC} {a : Act} {w : World},
    evOps P E Φ ops.toList l env h lw = some (env', h', lw') → SatH L h w → RVs L env a.tmps.toList →
    (∀ a' w' L', Stps L h w L' h' w' → Kept lw' L w L' w' → RVs L' env' a'.tmps.toList → a'.defers = a.defers → Q .normal a' w') → wpList P ops Q l a w := by
  intro l
  induction l with
  | nil =>
    intro env env' h h' lw lw' L a w e hs hr hQ
    simp only [evOps, Option.some.injEq, Prod.mk.injEq] at e
    obtain ⟨rfl, rfl, rfl⟩ := e
    exact hQ a w L (.refl hs) (.refl _ _ _) hr rfl
  | cons o l ih =>
    intro env env' h h' lw lw' L a w e hs hr hQ
    simp only [evOps] at e
    cases hw : wantedA ops.toList env o with
    | none => simp [hw] at e
    | some b =>
      have hwant := wantedA_run hw hr.size (fun j want t x _ _ hx => hr.getElem? hx)
      cases b
      · simp only [hw] at e
        unfold wpList
        rw [if_neg (by simp [hwant])]
        refine ih e hs (putA_rel hr o.dst (x := .tup []) (v := undef) ⟨#[], rfl, by simp [RVs]⟩) fun a' w' L' h1 h2 h3 h4 => hQ a' w' L' h1 h2 h3 (h4.trans (put_defers _ _ _))
      · simp only [hw] at e
        cases hst : stepOp P E Φ env h lw o.op with
        | none => simp [hst] at e
        | some q =>
          obtain ⟨v, h1, lw1, eff⟩ := q
          simp only [hst] at e
          unfold wpList
          rw [if_pos hwant]
          refine .inl (stepOp_run hE hΦ (fp := fun _ => True) (OpsR.of hr _) hst hs (fun _ _ => trivial) _ _ ?_)
          rintro r w1 ⟨L1, t1, k1, hv⟩
          have s1 : Stps L h w L1 h1 w1 := Stp.stps hs t1
          have hle := (evOps_low hΦ l e).1
          refine ih e s1.sat (putA_rel (RVs.mono s1.le _ _ hr) o.dst hv) fun a' w' L' g1 g2 g3 g4 => hQ a' w' L' (s1.trans g1) (k1.trans g2 hle (Nat.le_refl _)) g3 (g4.trans (put_defers _ _ _))
end Go.Proofs.YtgcdpdkccaabcaaGreat.Ev
