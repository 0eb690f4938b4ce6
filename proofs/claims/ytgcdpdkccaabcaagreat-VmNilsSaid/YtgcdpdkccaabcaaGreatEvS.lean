/- Regions at data that are told by variables: hints for what does not reduce, short states. Conditions: none (definitions and lemmas). -/
import Derived.Test.YtgcdpdkccaabcaaGreatEvR
namespace Go.Proofs.YtgcdpdkccaabcaaGreat.Ev
open Go
set_option linter.unusedVariables false
set_option linter.unusedSimpArgs false
set_option linter.unusedSectionVars false

/-- What a walk says of one operation: what it is given, what the heap bears, and what it comes to. -/
structure Hint where
  vals : List AV
  look : List (Nat × Blk) := []
  len : Nat
  heap : Option Heap := none
  v : AV
  upd : Heap → Heap := fun h => h
  lw : Nat → Nat := fun n => n
  eff : EffX := ⟨.none, false, none⟩
abbrev Hints := List (Nat × Hint)
/-- What is asked of the state at a hint. -/
abbrev Test := List AV × List (Option Blk) × Nat × Option Heap
def Hint.want (x : Hint) : Test := (x.vals, x.look.map fun p => some p.2, x.len, x.heap)
def testOf (x : Hint) (op : Op) (env : List AV) (h : Heap) : Test := (op.operands.toList.map (evalA env), x.look.map fun p => h[p.1]?, h.length, match x.heap with | some _ => some h | none => none)
/-- What the hint owes. -/
def Hint.Good (P : Program) (E : Eqs) (Φ : Orc) (x : Hint) (op : Op) : Prop :=
  ∀ env h lw, op.operands.toList.map (evalA env) = x.vals → x.look.map (fun p => h[p.1]?) = x.look.map (fun p => some p.2) → h.length = x.len → (∀ h1, x.heap = some h1 → h = h1) → stepOp P E Φ env h lw op = some (x.v, x.upd h, x.lw lw, x.eff)
def HintsOk (P : Program) (E : Eqs) (Φ : Orc) (ops : List Oper) : Hints → Prop
  | [] => True
  | p :: H => (match ops[p.1]? with | some o => p.2.Good P E Φ o.op | none => True) ∧ HintsOk P E Φ ops H
section
variable (P : Program) (E : Eqs) (Φ : Orc) (H : Hints) (ops : List Oper)
def runX : Nat → List Oper → List AV → Heap → Nat → Option ((List AV × Heap × Nat) × List (EffX × Nat × Nat) × List (Test × Test))
  | _, [], env, h, lw => some ((env, h, lw), [], [])
  | j, o :: rest, env, h, lw => match wantedA ops env o with
    | some true => match H.lookup j with
      | some x => match runX (j + 1) rest (putA env o.dst x.v) (x.upd h) (x.lw lw) with
        | some (q, es, ts) => some (q, (x.eff, h.length, (x.upd h).length) :: es, (testOf x o.op env h, x.want) :: ts)
        | none => none
      | none => match stepOp P E Φ env h lw o.op with
        | some (v, h', lw', eff) => match runX (j + 1) rest (putA env o.dst v) h' lw' with
          | some (q, es, ts) => some (q, (eff, h.length, h'.length) :: es, ts)
          | none => none
        | none => none
    | some false => match runX (j + 1) rest (putA env o.dst (.tup [])) h lw with
      | some (q, es, ts) => some (q, (⟨.none, false, none⟩, h.length, h.length) :: es, ts)
      | none => none
    | none => none
end
/-- The check of a region that draws: of what was touched alone. -/
def chkAll (ops : List Oper) : List Oper → List (EffX × Nat × Nat) → List Rec → List Nat → Bool
  | [], [], _, _ => true
  | o :: rest, (eff, lo, hi) :: es, recs, ms => backOk o recs.length && chkOne ops (maskOf ms o) ⟨o, eff, lo, hi⟩ recs 0 && chkAll ops rest es (recs ++ [⟨o, eff, lo, hi⟩]) (ms ++ [maskOf ms o])
  | _, _, _, _ => false
theorem HintsOk.get {P : Program} {E : Eqs} {Φ : Orc} {ops : List Oper} {j : Nat} {x : Hint} {o : Oper} (ho : ops[j]? = some o) : ∀ {H : Hints}, HintsOk P E Φ ops H → H.lookup j = some x → x.Good P E Φ o.op
  | [], _, h => by simp at h
  | (i, y) :: H, hk, h => by
    rw [List.lookup_cons] at h
    split at h
    · rename_i he
      have e1 : j = i := by simpa using he
      cases h
      subst e1
      have := hk.1
      simp only [ho] at this
      exact this
    · exact HintsOk.get ho hk.2 h
section
variable {P : Program} {E : Eqs} {Φ : Orc} {H : Hints} {ops : List Oper}
theorem Hint.use {x : Hint} {op : Op} (hg : x.Good P E Φ op) {env : List AV} {h : Heap} (lw : Nat) (ht : testOf x op env h = x.want) : stepOp P E Φ env h lw op = some (x.v, x.upd h, x.lw lw, x.eff) := by
  simp only [testOf, Hint.want, Prod.mk.injEq] at ht
  refine hg env h lw ht.1 ht.2.1 ht.2.2.1 fun h1 e => ?_
  have := ht.2.2.2
  rw [e] at this
  exact Option.some.inj this
theorem runX_ops (hH : HintsOk P E Φ ops H) : ∀ {l pre : List Oper} {env : List AV} {h : Heap} {lw : Nat} {q : List AV × Heap × Nat} {es : List (EffX × Nat × Nat)} {ts : List (Test × Test)}, ops = pre ++ l → runX P E Φ H ops pre.length l env h lw = some (q, es, ts) → (∀ t ∈ ts, t.1 = t.2) → evOps P E Φ ops l env h lw = some q := by
  intro l
  induction l with
  | nil =>
    intro pre env h lw q es ts _ e _
    simp only [runX, Option.some.injEq, Prod.mk.injEq] at e
    simp only [evOps, e.1]
  | cons o l ih =>
    intro pre env h lw q es ts hp e ht
    have hp' : ops = (pre ++ [o]) ++ l := by simp [hp]
    have hlen : (pre ++ [o]).length = pre.length + 1 := by simp
    unfold runX at e
    unfold evOps
    cases hw : wantedA ops env o with
    | none => simp [hw] at e
    | some b =>
      cases b
      · simp only [hw] at e ⊢
        split at e
        · rename_i q' es' ts' he
          cases e
          exact ih hp' (by rw [hlen]; exact he) ht
        · cases e
      · simp only [hw] at e ⊢
        split at e
        · rename_i x hx
          split at e
          · rename_i q' es' ts' he
            cases e
            have hg := HintsOk.get (o := o) (by rw [hp]; simp) hH hx
            rw [Hint.use hg lw (ht _ List.mem_cons_self)]
            exact ih hp' (by rw [hlen]; exact he) fun t h => ht t (by simp [h])
          · cases e
        · split at e
          · rename_i v h' lw' eff hs
            split at e
            · rename_i q' es' ts' he
              cases e
              simp only [hs]
              exact ih hp' (by rw [hlen]; exact he) ht
            · cases e
          · cases e
theorem runX_draw (hH : HintsOk P E Φ ops H) : ∀ {l pre : List Oper} {recs : List Rec} {ms : List Nat} {env : List AV} {h : Heap} {lw : Nat} {q : List AV × Heap × Nat} {es : List (EffX × Nat × Nat)} {ts : List (Test × Test)}, ops = pre ++ l → runX P E Φ H ops pre.length l env h lw = some (q, es, ts) → (∀ t ∈ ts, t.1 = t.2) →
    chkAll ops l es recs ms = true → evDraw P E Φ ops l recs ms env h lw = some q := by
  intro l
  induction l with
  | nil =>
    intro pre recs ms env h lw q es ts _ e _ _
    simp only [runX, Option.some.injEq, Prod.mk.injEq] at e
    simp only [evDraw, e.1]
  | cons o l ih =>
    intro pre recs ms env h lw q es ts hp e ht hc
    have hp' : ops = (pre ++ [o]) ++ l := by simp [hp]
    have hlen : (pre ++ [o]).length = pre.length + 1 := by simp
    unfold runX at e
    unfold evDraw
    cases hw : wantedA ops env o with
    | none => simp [hw] at e
    | some b =>
      cases b
      · simp only [hw] at e ⊢
        split at e
        · rename_i q' es' ts' he
          cases e
          simp only [chkAll, Bool.and_eq_true] at hc
          rw [if_pos hc.1.1, if_pos hc.1.2]
          exact ih hp' (by rw [hlen]; exact he) ht hc.2
        · cases e
      · simp only [hw] at e ⊢
        split at e
        · rename_i x hx
          split at e
          · rename_i q' es' ts' he
            cases e
            have hg := HintsOk.get (o := o) (by rw [hp]; simp) hH hx
            simp only [chkAll, Bool.and_eq_true] at hc
            rw [if_pos hc.1.1, Hint.use hg lw (ht _ List.mem_cons_self)]
            simp only
            rw [if_pos hc.1.2]
            exact ih hp' (by rw [hlen]; exact he) (fun t h => ht t (by simp [h])) hc.2
          · cases e
        · split at e
          · rename_i v h' lw' eff hs
            split at e
            · rename_i q' es' ts' he
              cases e
              simp only [chkAll, Bool.and_eq_true] at hc
              rw [if_pos hc.1.1]
              try simp only [hs]
              rw [if_pos hc.1.2]
              exact ih hp' (by rw [hlen]; exact he) ht hc.2
            · cases e
          · cases e
end

/-! ### short states -/
/-- An environment of which some tmps are told. -/
def sp (n : Nat) (l : List (Nat × AV)) : List AV := l.foldr (fun p env => env.set p.1 p.2) (List.replicate n .any)
def LiveOk (h : Heap) (n : Nat) (σ : List Nat) (env : List AV) : List (Nat × AV) → Prop
  | [] => True
  | p :: l => (∃ x, env[p.1]? = some x ∧ Frz h n σ x p.2) ∧ LiveOk h n σ env l
theorem frzs_any {h : Heap} {n : Nat} {σ : List Nat} : ∀ (env : List AV), Frzs h n σ env (List.replicate env.length .any)
  | [] => .nil
  | x :: env => by rw [List.length_cons, List.replicate_succ]; exact .cons (.any x) (frzs_any env)
theorem Frzs.set {h : Heap} {n : Nat} {σ : List Nat} : ∀ {xs ys : List AV}, Frzs h n σ xs ys → ∀ (i : Nat) {x y : AV}, xs[i]? = some x → Frz h n σ x y → Frzs h n σ xs (ys.set i y)
  | _, _, .nil, i, x, y, hx, _ => by simp at hx
  | _, _, .cons hx hs, 0, x, y, hi, hy => by
    simp only [List.getElem?_cons_zero, Option.some.injEq] at hi
    subst hi
    exact .cons hy hs
  | _, _, .cons hx hs, i + 1, x, y, hi, hy => .cons hx (Frzs.set hs i (by simpa using hi) hy)
theorem live_frzs {h : Heap} {n : Nat} {σ : List Nat} {env : List AV} {k : Nat} (hk : env.length = k) : ∀ {l : List (Nat × AV)}, LiveOk h n σ env l → Frzs h n σ env (sp k l)
  | [], _ => by rw [← hk]; exact frzs_any env
  | p :: l, ⟨⟨x, hx, hf⟩, hl⟩ => (live_frzs hk hl).set p.1 hx hf
/-- The blocks that stay. -/
def KeptOk (h : Heap) (σ : List Nat) : List Nat → Heap → Prop
  | [], [] => True
  | id :: s, y :: K => ((∃ x, h[id]? = some x ∧ FrzB h 0 σ x y) ∨ (h.length ≤ id ∧ y = .dead)) ∧ KeptOk h σ s K
  | _, _ => False
theorem keptOk_len {h : Heap} {σ : List Nat} : ∀ {s : List Nat} {K : Heap}, KeptOk h σ s K → s.length = K.length
  | [], [], _ => rfl
  | _ :: _, _ :: _, k => by simp [keptOk_len k.2]
  | [], _ :: _, k => by simp [KeptOk] at k
  | _ :: _, [], k => by simp [KeptOk] at k
theorem keptOk_get {h : Heap} {σ : List Nat} : ∀ {s : List Nat} {K : Heap}, KeptOk h σ s K → ∀ {j id : Nat}, s[j]? = some id → (∃ x y, h[id]? = some x ∧ K[j]? = some y ∧ FrzB h 0 σ x y) ∨ (h.length ≤ id ∧ K[j]? = some .dead)
  | [], [], _, j, id, e => by simp at e
  | i :: s, y :: K, k, 0, id, e => by
    simp only [List.getElem?_cons_zero, Option.some.injEq] at e
    subst e
    rcases k.1 with ⟨x, h1, h2⟩ | ⟨h1, rfl⟩
    · exact .inl ⟨x, y, h1, rfl, h2⟩
    · exact .inr ⟨h1, rfl⟩
  | i :: s, y :: K, k, j + 1, id, e => by
    rcases keptOk_get k.2 (j := j) (by simpa using e) with ⟨x, y', h1, h2, h3⟩ | ⟨h1, h2⟩
    · exact .inl ⟨x, y', h1, by simpa using h2, h3⟩
    · exact .inr ⟨h1, by simpa using h2⟩
  | [], _ :: _, k, _, _, _ => by simp [KeptOk] at k
  | _ :: _, [], k, _, _, _ => by simp [KeptOk] at k
/-- From an empty heap on: the state made plain. -/
theorem Pln.of (σ : List Nat) {s : St} {k : Nat} {l : List (Nat × AV)} {K : Heap} {lw : Nat} (hk : s.env.length = k) (hlw : lw = s.lw) (hσ : σ.Nodup) (hkept : KeptOk s.h σ σ K) (hl : LiveOk s.h 0 σ s.env l) : Pln [] s ⟨sp k l, K, lw⟩ :=
  ⟨σ, ⟨by simp [keptOk_len hkept], hσ, Nat.zero_le _, fun i hi => by simp at hi, fun i hi => by simp at hi, fun j id e => ⟨Nat.zero_le _, by simpa using keptOk_get hkept e⟩⟩, hlw, live_frzs hk hl⟩
theorem CodeB.pln {P : Program} {h0 : Heap} {c : Code} {s s' : St} {R : Ex → St → Prop} (hp : Pln h0 s s') (h : CodeB P h0 c s' R) : CodeB P h0 c s R := by
  obtain ⟨σ, h1, h2, h3⟩ := hp
  exact .gc s' σ h1 h2 h3 h

open Classical in
/-- One call that is known. -/
noncomputable def oneOrc (f : FuncId) (args : List AV) (h : Heap) (r : AV × Heap × Nat) : Orc := fun f' args' h' => if f' = f ∧ args' = args ∧ h' = h then some r else none
theorem oneOrc_ok {P : Program} {f : FuncId} {args : List AV} {h : Heap} {r : AV} {h' : Heap} {lw : Nat} (k : OrcAt P f args h r h' lw) : OrcOk P (oneOrc f args h (r, h', lw)) := by
  intro f0 args0 h0 r0 h0' lw0 e
  unfold oneOrc at e
  split at e
  · rename_i hc
    obtain ⟨rfl, rfl, rfl⟩ := hc
    cases e
    exact k
  · cases e
theorem oneOrc_self {f : FuncId} {args : List AV} {h : Heap} {r : AV × Heap × Nat} : oneOrc f args h r f args h = some r := by simp [oneOrc]
/-- Calls that are known. -/
def orOrc (a b : Orc) : Orc := fun f args h => match a f args h with | some r => some r | none => b f args h
theorem orOrc_ok {P : Program} {a b : Orc} (ha : OrcOk P a) (hb : OrcOk P b) : OrcOk P (orOrc a b) := by
  intro f args h r h' lw e
  unfold orOrc at e
  split at e
  · rename_i q hq; cases e; exact ha _ _ _ _ _ _ hq
  · exact hb _ _ _ _ _ _ e
theorem step_call {P : Program} {E : Eqs} {Φ : Orc} {env : List AV} {h : Heap} {lw : Nat} {c : Call} {f : FuncId} {args : List AV} {q : AV × Heap × Nat} (hb : isBuiltin c = false) (hc : calleeA env c = some (f, args)) (hq : Φ f args h = some q) :
    stepOp P E Φ env h lw (.call c) = some (q.1, q.2.1, min lw q.2.2, ⟨.none, true, callW h.length q.2.2⟩) := by
  simp only [stepOp, hb, hc, hq, Bool.false_eq_true, if_false, Option.map_some]
theorem step_ite {α β γ : Type} {c : Prop} [Decidable c] (hc : c) {a : α} {b : Option α} {g : α → β} {f : β → γ} : Option.map f (Option.map g (if c then some a else b)) = some (f (g a)) := by rw [if_pos hc]; rfl
/-! ### one region, from one plain state to the next -/
def spH (n : Nat) (B : List (Nat × Blk)) : Heap := B.foldr (fun p h => h.set p.1 p.2) (List.replicate n .dead)
theorem spH_length {n : Nat} : ∀ {B : List (Nat × Blk)}, (spH n B).length = n
  | [] => by simp [spH]
  | p :: B => by simp only [spH, List.foldr_cons, List.length_set]; exact spH_length (B := B)
theorem spH_get {n : Nat} {h : Heap} : ∀ {B : List (Nat × Blk)}, (∀ p ∈ B, h[p.1]? = some p.2) → ∀ (id : Nat) (x : Blk), (spH n B)[id]? = some x → x ≠ .dead → h[id]? = some x
  | [], _, id, x, e, hx => by
    simp only [spH, List.foldr_nil, List.getElem?_replicate] at e
    split at e
    · exact absurd (Option.some.inj e).symm hx
    · cases e
  | p :: B, hB, id, x, e, hx => by
    simp only [spH, List.foldr_cons, List.getElem?_set] at e
    split at e
    · rename_i hi
      subst hi
      split at e
      · cases e
        exact hB p (by simp)
      · cases e
    · exact spH_get (fun q hq => hB q (by simp [hq])) id x e hx
mutual
theorem Frz.of_le {h1 h2 : Heap} {n : Nat} {σ : List Nat} (hle : ∀ (id : Nat) (x : Blk), h1[id]? = some x → x ≠ .dead → h2[id]? = some x) : ∀ {x y : AV}, Frz h1 n σ x y → Frz h2 n σ x y
  | _, _, .any x => .any x
  | _, _, .bool b => .bool b
  | _, _, .int k i => .int k i
  | _, _, .str s => .str s
  | _, _, .nilp => .nilp
  | _, _, .nils => .nils
  | _, _, .nilm => .nilm
  | _, _, .nilf => .nilf
  | _, _, .nili => .nili
  | _, _, .ptrOld h => .ptrOld h
  | _, _, .ptrKeep h => .ptrKeep h
  | _, _, .ptrFrz a b c d => .ptrFrz a b (hle _ _ c (by simp)) (Frzs.of_le hle d)
  | _, _, .slOld a b c d => .slOld a b c d
  | _, _, .slKeep a b c d => .slKeep a b c d
  | _, _, .slFrz a b c d e => .slFrz a b (hle _ _ c (by simp)) (Frzs.of_le hle d) e
  | _, _, .mpOld a => .mpOld a
  | _, _, .mpKeep a => .mpKeep a
  | _, _, .vp k a => .vp k (Frzs.of_le hle a)
  | _, _, .vsl k a b => .vsl k (Frzs.of_le hle a) b
  | _, _, .fn a b => .fn (Frzs.of_le hle a) (Frzs.of_le hle b)
  | _, _, .iface a => .iface (Frz.of_le hle a)
  | _, _, .agg a => .agg (Frzs.of_le hle a)
  | _, _, .tup a => .tup (Frzs.of_le hle a)
theorem Frzs.of_le {h1 h2 : Heap} {n : Nat} {σ : List Nat} (hle : ∀ (id : Nat) (x : Blk), h1[id]? = some x → x ≠ .dead → h2[id]? = some x) : ∀ {xs ys : List AV}, Frzs h1 n σ xs ys → Frzs h2 n σ xs ys
  | _, _, .nil => .nil
  | _, _, .cons a b => .cons (Frz.of_le hle a) (Frzs.of_le hle b)
end
theorem FrzB.of_le {h1 h2 : Heap} {n : Nat} {σ : List Nat} (hle : ∀ (id : Nat) (x : Blk), h1[id]? = some x → x ≠ .dead → h2[id]? = some x) {x y : Blk} : FrzB h1 n σ x y → FrzB h2 n σ x y
  | .dead => .dead
  | .cells k hs => .cells k (Frzs.of_le hle hs)
  | .mp a b => .mp (Frzs.of_le hle a) (Frzs.of_le hle b)
/-- What is looked at behind a region. -/
def viewX (ops : List Oper) (draw : Bool) (tm ids : List Nat) (r : Option ((List AV × Heap × Nat) × List (EffX × Nat × Nat) × List (Test × Test))) : Option (List (Option AV) × List (Option Blk) × Nat × Nat × Nat × Bool × List Test × List Test) :=
  match r with
  | some (q, es, ts) => some (tm.map (q.1[·]?), ids.map (q.2.1[·]?), q.1.length, q.2.1.length, q.2.2, (!draw || chkAll ops ops es [] []), ts.map (·.1), ts.map (·.2))
  | none => none
def KeptV (h : Heap) (B : List (Nat × Blk)) (σ : List Nat) : List Nat → Heap → Prop
  | [], [] => True
  | id :: s, y :: K => ((∃ x, B.lookup id = some x ∧ FrzB h 0 σ x y) ∨ (h.length ≤ id ∧ y = .dead)) ∧ KeptV h B σ s K
  | _, _ => False
def LiveV (h : Heap) (T : List (Nat × AV)) (σ : List Nat) : List (Nat × AV) → Prop
  | [] => True
  | p :: l => (∃ x, T.lookup p.1 = some x ∧ Frz h 0 σ x p.2) ∧ LiveV h T σ l
theorem lookup_mem {α : Type} {j : Nat} {x : α} : ∀ {l : List (Nat × α)}, l.lookup j = some x → (j, x) ∈ l
  | [], h => by simp at h
  | (i, y) :: l, h => by
    rw [List.lookup_cons] at h
    split at h
    · rename_i he
      have e1 : j = i := by simpa using he
      cases h
      simp [e1]
    · exact List.mem_cons_of_mem _ (lookup_mem h)
theorem map_look {β : Type} {f : Nat → Option β} {l : List (Nat × β)} (h : l.map (fun p => f p.1) = l.map (fun p => some p.2)) : ∀ p ∈ l, f p.1 = some p.2 := by
  induction l with
  | nil => intro p hp; cases hp
  | cons q l ih =>
    simp only [List.map_cons, List.cons.injEq] at h
    intro p hp
    rcases List.mem_cons.1 hp with rfl | hp
    · exact h.1
    · exact ih h.2 p hp
theorem all_eq {α : Type} {l : List (α × α)} (h : l.map (·.1) = l.map (·.2)) : ∀ t ∈ l, t.1 = t.2 := by
  induction l with
  | nil => intro p hp; cases hp
  | cons q l ih =>
    simp only [List.map_cons, List.cons.injEq] at h
    intro p hp
    rcases List.mem_cons.1 hp with rfl | hp
    · exact h.1
    · exact ih h.2 p hp
theorem keptV_ok {h h1 : Heap} (hlen : h1.length = h.length) {B : List (Nat × Blk)} {σ : List Nat} (hB : ∀ p ∈ B, h[p.1]? = some p.2) (hle : ∀ (id : Nat) (x : Blk), h1[id]? = some x → x ≠ .dead → h[id]? = some x) : ∀ {s : List Nat} {K : Heap}, KeptV h1 B σ s K → KeptOk h σ s K
  | [], [], _ => trivial
  | id :: s, y :: K, ⟨k, hk⟩ => ⟨k.imp (fun ⟨x, hx, hf⟩ => ⟨x, hB _ (lookup_mem hx), hf.of_le hle⟩) (fun ⟨h1, h2⟩ => ⟨hlen ▸ h1, h2⟩), keptV_ok hlen hB hle hk⟩
  | [], _ :: _, hk => by simp [KeptV] at hk
  | _ :: _, [], hk => by simp [KeptV] at hk
theorem liveV_ok {h h1 : Heap} {T : List (Nat × AV)} {σ : List Nat} {env : List AV} (hT : ∀ p ∈ T, env[p.1]? = some p.2) (hle : ∀ (id : Nat) (x : Blk), h1[id]? = some x → x ≠ .dead → h[id]? = some x) : ∀ {l : List (Nat × AV)}, LiveV h1 T σ l → LiveOk h 0 σ env l
  | [], _ => trivial
  | p :: l, ⟨⟨x, hx, hf⟩, hk⟩ => ⟨⟨x, hT _ (lookup_mem hx), hf.of_le hle⟩, liveV_ok hT hle hk⟩
/-- One region: what it comes to is told by the kernel's run (T: tmps, B: blocks), and made plain (l: tmps, K: blocks). -/
theorem CodeB.view {P : Program} {E : Eqs} (hE : EqsOk P E) {Φ : Orc} (hΦ : OrcOk P Φ) (hmix : P.follows .mixedOrders = true) (H : Hints) (T : List (Nat × AV)) (B : List (Nat × Blk)) {k n lw : Nat} (σ : List Nat) (l : List (Nat × AV)) (K : Heap)
    {rid : Nat} {ops : Array Oper} {draw : Bool} {s : St} {R : Ex → St → Prop} (hH : HintsOk P E Φ ops.toList H)
    (e : viewX ops.toList draw (T.map (·.1)) (B.map (·.1)) (runX P E Φ H ops.toList 0 ops.toList s.env s.h s.lw) = some (T.map fun p => some p.2, B.map fun p => some p.2, k, n, lw, true, H.map (·.2.want), H.map (·.2.want)))
    (hσ : σ.Nodup) (hK : KeptV (spH n B) B σ σ K) (hl : LiveV (spH n B) T σ l) (h : R .normal ⟨sp k l, K, lw⟩) : CodeB P [] (.region rid ops draw) s R := by
  unfold viewX at e
  split at e
  case h_2 => cases e
  rename_i q es ts hr
  simp only [Option.some.injEq, Prod.mk.injEq] at e
  obtain ⟨e1, e2, e3, e4, e5, e6, e7, e8⟩ := e
  have hts : ∀ t ∈ ts, t.1 = t.2 := all_eq (e7.trans e8.symm)
  have hT : ∀ p ∈ T, q.1[p.1]? = some p.2 := map_look (f := fun t => q.1[t]?) (by rw [List.map_map] at e1; exact e1)
  have hB : ∀ p ∈ B, q.2.1[p.1]? = some p.2 := map_look (f := fun t => q.2.1[t]?) (by rw [List.map_map] at e2; exact e2)
  have hle := spH_get (n := n) hB
  have pl : Pln [] (stOf q) ⟨sp k l, K, lw⟩ := Pln.of σ e3 e5.symm hσ (keptV_ok (by rw [spH_length]; exact e4.symm) hB hle hK) (liveV_ok hT hle hl)
  have base : CodeB P [] (.region rid ops draw) s fun x s' => x = .normal ∧ s' = stOf q := by
    cases draw with
    | false => exact .region hE hΦ (runX_ops (ops := ops.toList) (pre := []) hH rfl hr hts) ⟨rfl, rfl⟩
    | true => exact .draw hE hΦ hmix (runX_draw (ops := ops.toList) (pre := []) hH rfl hr hts (by simpa using e6)) ⟨rfl, rfl⟩
  refine base.plain ?_
  rintro x s' ⟨rfl, rfl⟩
  exact ⟨_, pl, h⟩
/-! ### one region, nothing made plain but the tmps -/
def viewG (ops : List Oper) (draw : Bool) (tm : List Nat) (r : Option ((List AV × Heap × Nat) × List (EffX × Nat × Nat) × List (Test × Test))) : Option (List (Option AV) × Heap × Nat × Nat × Bool × List Test × List Test) :=
  match r with
  | some (q, es, ts) => some (tm.map (q.1[·]?), q.2.1, q.1.length, q.2.2, (!draw || chkAll ops ops es [] []), ts.map (·.1), ts.map (·.2))
  | none => none
theorem rvs_any {L : LC} : ∀ {xs : List AV} {vs : List Value}, RVs L xs vs → RVs L (List.replicate xs.length .any) vs
  | [], [], _ => .nil
  | x :: xs, v :: vs, h => by
    rw [List.length_cons, List.replicate_succ]
    simp only [RVs] at h ⊢
    exact ⟨by simp [RV], rvs_any h.2⟩
  | [], _ :: _, h => by simp [RVs] at h
  | _ :: _, [], h => by simp [RVs] at h
theorem RVs.put {L : LC} {xs ys : List AV} {vs : List Value} (h : RVs L xs vs) (k : RVs L ys vs) {i : Nat} {x : AV} (hx : xs[i]? = some x) : RVs L (ys.set i x) vs := by
  obtain ⟨v, hv, hr⟩ := h.get_some hx
  have := k.set i hr
  obtain ⟨hi, rfl⟩ := List.getElem?_eq_some_iff.1 hv
  rwa [List.set_getElem_self] at this
theorem RVs.sp {L : LC} {env : List AV} {vs : List Value} (h : RVs L env vs) {k : Nat} (hk : env.length = k) : ∀ {T : List (Nat × AV)}, (∀ p ∈ T, env[p.1]? = some p.2) → RVs L (sp k T) vs
  | [], _ => by rw [← hk]; exact rvs_any h
  | p :: T, hT => h.put (h.sp hk fun q hq => hT q (by simp [hq])) (hT p (by simp))
theorem CodeB.go {P : Program} {E : Eqs} (hE : EqsOk P E) {Φ : Orc} (hΦ : OrcOk P Φ) (hmix : P.follows .mixedOrders = true) {h0 : Heap} (k : Nat) (H : Hints) (T : List (Nat × AV)) (h' : Heap) (lw' : Nat)
    {rid : Nat} {ops : Array Oper} {draw : Bool} {s : St} {R : Ex → St → Prop} (hH : HintsOk P E Φ ops.toList H)
    (e : viewG ops.toList draw (T.map (·.1)) (runX P E Φ H ops.toList 0 ops.toList s.env s.h s.lw) = some (T.map fun p => some p.2, h', k, lw', true, H.map (·.2.want), H.map (·.2.want)))
    (h : R .normal ⟨sp k T, h', lw'⟩) : CodeB P h0 (.region rid ops draw) s R := by
  unfold viewG at e
  split at e
  case h_2 => cases e
  rename_i q es ts hr
  simp only [Option.some.injEq, Prod.mk.injEq] at e
  obtain ⟨e1, rfl, e3, rfl, e6, e7, e8⟩ := e
  have hts : ∀ t ∈ ts, t.1 = t.2 := all_eq (e7.trans e8.symm)
  have hT : ∀ p ∈ T, q.1[p.1]? = some p.2 := map_look (f := fun t => q.1[t]?) (by rw [List.map_map] at e1; exact e1)
  have base : CodeB P h0 (.region rid ops draw) s fun x s' => x = .normal ∧ s' = stOf q := by
    cases draw with
    | false => exact .region hE hΦ (runX_ops (ops := ops.toList) (pre := []) hH rfl hr hts) ⟨rfl, rfl⟩
    | true => exact .draw hE hΦ hmix (runX_draw (ops := ops.toList) (pre := []) hH rfl hr hts (by simpa using e6)) ⟨rfl, rfl⟩
  intro L0 w0 L a w Q h1 h2 hQ
  refine base L0 w0 L a w Q h1 h2 ?_
  rintro x s' a' w' L' ⟨rfl, rfl⟩ t hd
  exact hQ .normal _ a' w' L' h ⟨t.steps, t.kept, t.low, t.env.sp e3 hT⟩ hd
theorem CodeB.condT {P : Program} {h0 : Heap} {x : Operand} {c d : Code} {s : St} {R : Ex → St → Prop} {p : Prop} [Decidable p] (hp : p) (hb : evalA s.env x = .bool (decide p)) (h : CodeB P h0 c s R) : CodeB P h0 (.cond x c d) s R :=
  .cond (b := true) (by rw [hb, decide_eq_true hp]) h
theorem CodeB.condF {P : Program} {h0 : Heap} {x : Operand} {c d : Code} {s : St} {R : Ex → St → Prop} {p : Prop} [Decidable p] (hp : ¬ p) (hb : evalA s.env x = .bool (decide p)) (h : CodeB P h0 d s R) : CodeB P h0 (.cond x c d) s R :=
  .cond (b := false) (by rw [hb, decide_eq_false hp]) h
end Go.Proofs.YtgcdpdkccaabcaaGreat.Ev
