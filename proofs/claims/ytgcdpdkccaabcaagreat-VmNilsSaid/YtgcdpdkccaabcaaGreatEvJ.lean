/- One operation of any kind that is no call of a Go function. Conditions: none (definitions and lemmas). -/
import Derived.Test.YtgcdpdkccaabcaaGreatEvI
namespace Go.Proofs.YtgcdpdkccaabcaaGreat.Ev
open Go
set_option linter.unusedVariables false
set_option linter.unusedSimpArgs false
set_option linter.unusedSectionVars false

def isAppend (c : Call) : Bool := match c.callee with | .builtin .append => true | _ => false
def dirOp (P : Program) (E : Eqs) (env : List AV) (h : Heap) (op : Op) : Option (AV × Heap × Eff) :=
  match op with
  | .alloc t => (allocA P h t).map fun q => (q.1, q.2, .none)
  | .box t x => (boxA h t (evalA env x)).map fun q => (q.1, q.2, .none)
  | .buildSlice t len parts => (buildSliceA P h t len (parts.toList.map fun q => (q.1, evalA env q.2))).map fun q => (q.1, q.2, .none)
  | .makeSlice t l c => (makeSliceA P h t (evalA env l) (evalA env c)).map fun q => (q.1, q.2, .none)
  | .makeMap _ none => some ((makeMapA h).1, (makeMapA h).2, .none)
  | .load t x => (loadA P h t (evalA env x)).map fun q => (q.1, h, ⟨q.2, []⟩)
  | .store t x v => (storeA P h t (evalA env x) (evalA env v)).map fun q => (.tup [], q.1, ⟨[], [q.2]⟩)
  | .lookup t m k ok => (lookupA P E h t (evalA env m) (evalA env k) ok).map fun q => (q.1, h, ⟨q.2, []⟩)
  | .mapUpdate t m k v | .insert t m k v => (mapUpdateA P E h t (evalA env m) (evalA env k) (evalA env v)).map fun q => (.tup [], q.1, ⟨[], [q.2]⟩)
  | .call c => if isAppend c then match c.args.toList, c.argTypes.toList with
      | [s, x], [st, xt] => appendU P h st xt (evalA env s) (evalA env x)
      | _, _ => none
    else (builtinA P env c).map fun v => (v, h, .none)
  | op => (pureOp P E env op).map fun v => (v, h, .none)

theorem dirOp_run {P : Program} {E : Eqs} (hE : EqsOk P E) {fp : Nat → Prop} {L : LC} {env : List AV} {h h' : Heap} {w : World} (s : SatOn fp L h w) {a : Act} {o : Oper} (henv : OpsR L env a o.op.operands) {z : AV} {eff : Eff}
    (e : dirOp P E env h o.op = some (z, h', eff)) (hfp : ∀ id, eff.fp id → fp id) :
    ∃ n w' L' r, (execOp a.eval o).run P w = .ok n w' ∧ (n = .value r ∨ (n = .skip ∧ r = undef)) ∧ Stp (fun id => id ∈ eff.wr) L h w L' h' w' ∧ RV L' z r := by
  have pure : ∀ {v : AV}, pureOp P E env o.op = some v → z = v → h' = h → eff = .none → ∃ n w' L' r, (execOp a.eval o).run P w = .ok n w' ∧ (n = .value r ∨ (n = .skip ∧ r = undef)) ∧ Stp (fun id => id ∈ eff.wr) L h w L' h' w' ∧ RV L' z r := by
    intro v hv e1 e2 e3
    subst e1; subst e2; subst e3
    obtain ⟨r, hr, hz⟩ := pureOp_run hE henv hv w
    exact ⟨_, w, L, r, hr, .inl rfl, Stp.none s _ (fun id hid => hfp id (.inr hid)), hz⟩
  have made : ∀ {sm : Sem Value} {L' : LC} {r : Value} {w' : World}, sm.run P w = .ok r w' → Stp (fun _ => False) L h w L' h' w' → RV L' z r → (execOp a.eval o = (do Pure.pure (.value (← sm)))) →
      ∃ n w' L' r, (execOp a.eval o).run P w = .ok n w' ∧ (n = .value r ∨ (n = .skip ∧ r = undef)) ∧ Stp (fun id => id ∈ eff.wr) L h w L' h' w' ∧ RV L' z r := by
    intro sm L' r w' hr st hz he
    exact ⟨.value r, w', L', r, by rw [he]; simp [hr], .inl rfl, st.wider s (fun _ f => f.elim) (fun id hid => hfp id (.inr hid)), hz⟩
  obtain ⟨dst, op, ty, pos, after, guard⟩ := o
  simp only at e henv
  cases op
  case alloc t =>
    obtain ⟨q, hq, e⟩ := Option.map_eq_some_iff.1 e
    cases e
    obtain ⟨v, w', L', h1, h2, h3⟩ := allocA_run s hq
    exact made h1 h2 h3 rfl
  case box t x =>
    obtain ⟨q, hq, e⟩ := Option.map_eq_some_iff.1 e
    cases e
    obtain ⟨v, w', L', h1, h2, h3⟩ := boxA_run (P := P) s hq (henv x (by simp [Op.operands]))
    exact made h1 h2 h3 rfl
  case buildSlice t len parts =>
    obtain ⟨q, hq, e⟩ := Option.map_eq_some_iff.1 e
    cases e
    obtain ⟨v, w', L', h1, h2, h3⟩ := buildSliceA_run (vparts := parts.map fun q => (q.1, a.eval q.2)) s hq (by simp [List.map_map, Function.comp_def]) (by
      simp only [Array.toList_map, List.map_map, Function.comp_def]
      exact RVs.map _ fun q hq => henv q.2 (by simp only [Op.operands]; simp; exact ⟨q.1, by simpa using hq⟩))
    exact made h1 h2 h3 rfl
  case makeSlice t l c =>
    obtain ⟨q, hq, e⟩ := Option.map_eq_some_iff.1 e
    cases e
    obtain ⟨v, w', L', h1, h2, h3⟩ := makeSliceA_run s hq (henv l (by simp [Op.operands])) (henv c (by simp [Op.operands]))
    exact made h1 h2 h3 rfl
  case makeMap t r =>
    cases r with
    | some r => simp [dirOp, pureOp] at e
    | none =>
      cases e
      obtain ⟨v, w', L', h1, h2, h3⟩ := makeMapA_run (P := P) s t
      exact made h1 h2 h3 rfl
  case load t x =>
    obtain ⟨q, hq, e⟩ := Option.map_eq_some_iff.1 e
    cases e
    obtain ⟨r, h1, h2⟩ := loadA_run s hq (fun id hid => hfp id (.inl hid)) (henv x (by simp [Op.operands]))
    exact ⟨.value r, w, L, r, by simp [execOp, h1], .inl rfl, Stp.none s _ (fun id hid => hfp id (.inr hid)), h2⟩
  case lookup t m k ok =>
    obtain ⟨q, hq, e⟩ := Option.map_eq_some_iff.1 e
    cases e
    obtain ⟨r, h1, h2⟩ := lookupA_run hE s hq (fun id hid => hfp id (.inl hid)) (henv m (by simp [Op.operands])) (henv k (by simp [Op.operands]))
    exact ⟨.value r, w, L, r, by simp [execOp, h1], .inl rfl, Stp.none s _ (fun id hid => hfp id (.inr hid)), h2⟩
  case store t x v =>
    obtain ⟨q, hq, e⟩ := Option.map_eq_some_iff.1 e
    cases e
    obtain ⟨w', h1, h2⟩ := storeA_run s hq (hfp _ (.inr (by simp))) (henv x (by simp [Op.operands])) (henv v (by simp [Op.operands]))
    exact ⟨.skip, w', L, undef, by simp [execOp, h1], .inr ⟨rfl, rfl⟩, h2.wider s (fun id (hid : id = _) => by simp [hid]) (fun id hid => hfp id (.inr hid)), ⟨#[], rfl, by simp [RVs]⟩⟩
  case mapUpdate t m k v =>
    obtain ⟨q, hq, e⟩ := Option.map_eq_some_iff.1 e
    cases e
    obtain ⟨w', h1, h2⟩ := mapUpdateA_run hE s hq (hfp _ (.inr (by simp))) (henv m (by simp [Op.operands])) (henv k (by simp [Op.operands])) (henv v (by simp [Op.operands]))
    exact ⟨.skip, w', L, undef, by simp [execOp, h1], .inr ⟨rfl, rfl⟩, h2.wider s (fun id (hid : id = _) => by simp [hid]) (fun id hid => hfp id (.inr hid)), ⟨#[], rfl, by simp [RVs]⟩⟩
  case insert t m k v =>
    obtain ⟨q, hq, e⟩ := Option.map_eq_some_iff.1 e
    cases e
    obtain ⟨w', h1, h2⟩ := mapUpdateA_run hE s hq (hfp _ (.inr (by simp))) (henv m (by simp [Op.operands])) (henv k (by simp [Op.operands])) (henv v (by simp [Op.operands]))
    exact ⟨.skip, w', L, undef, by simp [execOp, h1], .inr ⟨rfl, rfl⟩, h2.wider s (fun id (hid : id = _) => by simp [hid]) (fun id hid => hfp id (.inr hid)), ⟨#[], rfl, by simp [RVs]⟩⟩
  case call c =>
    simp only [dirOp] at e
    by_cases hc : isAppend c = true
    · rw [if_pos hc] at e
      obtain ⟨callee, args, ts⟩ := c
      obtain ⟨args⟩ := args
      obtain ⟨ts⟩ := ts
      cases callee <;> simp only [isAppend, Bool.false_eq_true] at hc
      rename_i b
      cases b <;> simp only [Bool.false_eq_true] at hc
      split at e
      · rename_i x y st xt e1 e2
        have e1' : args = [x, y] := e1
        have e2' : ts = [st, xt] := e2
        subst e1'; subst e2'
        obtain ⟨r, w', L', h1, h2, h3⟩ := appendU_run s e hfp (henv x (by simp [Op.operands, Call.operands])) (henv y (by simp [Op.operands, Call.operands])) ty
        exact ⟨.value r, w', L', r, by simp [execOp, resolve, invoke, builtin, h1], .inl rfl, h2, h3⟩
      · cases e
    · rw [if_neg hc] at e
      obtain ⟨v, hv, e⟩ := Option.map_eq_some_iff.1 e
      cases e
      exact pure hv rfl rfl rfl
  all_goals
    simp only [dirOp] at e
    obtain ⟨v, hv, e⟩ := Option.map_eq_some_iff.1 e
    cases e
    exact pure hv rfl rfl rfl

/-- What it leaves as it was. -/
theorem appendA_mod {P : Program} {h h' : Heap} {st xt : TypeId} {x y z : AV} {eff : Eff} (e : appendA P h st xt x y = some (z, h', eff)) {id : Nat} (hid : id < h.length) (hn : id ∉ eff.wr) : h'[id]? = h[id]? := by
  unfold appendA at e
  repeat' split at e
  all_goals first
    | (cases e; done)
    | (cases e; rfl)
    | (cases e; exact List.getElem?_append_left hid)
    | (cases e; rw [List.getElem?_set_ne (by intro k; subst k; simp at hn)])
    | (cases e; rw [List.getElem?_append_left (by simpa using hid), List.getElem?_set_ne (by intro k; subst k; simp at hn)])
theorem appendU_mod {P : Program} {h h' : Heap} {st xt : TypeId} {x y z : AV} {eff : Eff} (e : appendU P h st xt x y = some (z, h', eff)) {id : Nat} (hid : id < h.length) (hn : id ∉ eff.wr) : h'[id]? = h[id]? := by
  unfold appendU at e
  split at e
  · split at e
    · split at e
      · rename_i r hr
        cases e
        unfold appendV at hr
        repeat' split at hr
        all_goals first
          | (cases hr; done)
          | (cases hr; rw [List.getElem?_append_left (by simpa using hid), List.getElem?_set_ne (by intro k; subst k; simp at hn)])
      · exact appendA_mod e hid hn
    · exact appendA_mod e hid hn
  · exact appendA_mod e hid hn
theorem appendA_len {P : Program} {h h' : Heap} {st xt : TypeId} {x y z : AV} {eff : Eff} (e : appendA P h st xt x y = some (z, h', eff)) : h.length ≤ h'.length := by
  unfold appendA at e
  repeat' split at e
  all_goals first
    | (cases e; done)
    | (cases e; simp)
theorem appendU_len {P : Program} {h h' : Heap} {st xt : TypeId} {x y z : AV} {eff : Eff} (e : appendU P h st xt x y = some (z, h', eff)) : h.length ≤ h'.length := by
  unfold appendU at e
  split at e
  · split at e
    · split at e
      · rename_i r hr
        cases e
        unfold appendV at hr
        repeat' split at hr
        all_goals first
          | (cases hr; done)
          | (cases hr; simp)
      · exact appendA_len e
    · exact appendA_len e
  · exact appendA_len e
theorem dirOp_mod {P : Program} {E : Eqs} {env : List AV} {h h' : Heap} {op : Op} {z : AV} {eff : Eff} (e : dirOp P E env h op = some (z, h', eff)) {id : Nat} (hid : id < h.length) (hn : id ∉ eff.wr) : h'[id]? = h[id]? := by
  cases op
  case call c =>
    simp only [dirOp] at e
    split at e
    · split at e
      · exact appendU_mod e hid hn
      · cases e
    · obtain ⟨v, hv, e⟩ := Option.map_eq_some_iff.1 e
      cases e; rfl
  case alloc t =>
    obtain ⟨q, hq, e⟩ := Option.map_eq_some_iff.1 e
    cases e
    obtain ⟨z, hz, e⟩ := Option.map_eq_some_iff.1 hq
    cases e
    exact List.getElem?_append_left hid
  case box t x =>
    obtain ⟨q, hq, e⟩ := Option.map_eq_some_iff.1 e
    cases e
    obtain ⟨z, hz, e⟩ := Option.map_eq_some_iff.1 hq
    cases e
    exact List.getElem?_append_left hid
  case buildSlice t len parts =>
    obtain ⟨q, hq, e⟩ := Option.map_eq_some_iff.1 e
    cases e
    unfold buildSliceA at hq
    repeat' split at hq
    all_goals first
      | (cases hq; done)
      | (obtain ⟨z, hz, e⟩ := Option.map_eq_some_iff.1 hq; cases e; exact List.getElem?_append_left hid)
  case makeSlice t l c =>
    obtain ⟨q, hq, e⟩ := Option.map_eq_some_iff.1 e
    cases e
    unfold makeSliceA at hq
    repeat' split at hq
    all_goals first
      | (cases hq; done)
      | (cases hq; exact List.getElem?_append_left hid)
  case makeMap t r =>
    cases r with
    | some r => simp [dirOp, pureOp] at e
    | none => cases e; exact List.getElem?_append_left hid
  case store t x v =>
    obtain ⟨q, hq, e⟩ := Option.map_eq_some_iff.1 e
    cases e
    unfold storeA at hq
    repeat' split at hq
    all_goals first
      | (cases hq; done)
      | (cases hq; rw [List.getElem?_set_ne (by intro k; subst k; simp at hn)])
  case mapUpdate t m k v =>
    obtain ⟨q, hq, e⟩ := Option.map_eq_some_iff.1 e
    cases e
    unfold mapUpdateA at hq
    repeat' split at hq
    all_goals first
      | (cases hq; done)
      | (cases hq; rw [List.getElem?_set_ne (by intro k; subst k; simp at hn)])
  case insert t m k v =>
    obtain ⟨q, hq, e⟩ := Option.map_eq_some_iff.1 e
    cases e
    unfold mapUpdateA at hq
    repeat' split at hq
    all_goals first
      | (cases hq; done)
      | (cases hq; rw [List.getElem?_set_ne (by intro k; subst k; simp at hn)])
  all_goals
    simp only [dirOp] at e
    obtain ⟨v, hv, e⟩ := Option.map_eq_some_iff.1 e
    cases e; rfl
theorem dirOp_len {P : Program} {E : Eqs} {env : List AV} {h h' : Heap} {op : Op} {z : AV} {eff : Eff} (e : dirOp P E env h op = some (z, h', eff)) : h.length ≤ h'.length := by
  cases op
  case call c =>
    simp only [dirOp] at e
    split at e
    · split at e
      · exact appendU_len e
      · cases e
    · obtain ⟨v, hv, e⟩ := Option.map_eq_some_iff.1 e
      cases e; exact Nat.le_refl _
  case alloc t =>
    obtain ⟨q, hq, e⟩ := Option.map_eq_some_iff.1 e
    cases e
    obtain ⟨z, hz, e⟩ := Option.map_eq_some_iff.1 hq
    cases e; simp
  case box t x =>
    obtain ⟨q, hq, e⟩ := Option.map_eq_some_iff.1 e
    cases e
    obtain ⟨z, hz, e⟩ := Option.map_eq_some_iff.1 hq
    cases e; simp
  case buildSlice t len parts =>
    obtain ⟨q, hq, e⟩ := Option.map_eq_some_iff.1 e
    cases e
    unfold buildSliceA at hq
    repeat' split at hq
    all_goals first
      | (cases hq; done)
      | (obtain ⟨z, hz, e⟩ := Option.map_eq_some_iff.1 hq; cases e; simp)
  case makeSlice t l c =>
    obtain ⟨q, hq, e⟩ := Option.map_eq_some_iff.1 e
    cases e
    unfold makeSliceA at hq
    repeat' split at hq
    all_goals first
      | (cases hq; done)
      | (cases hq; simp)
  case makeMap t r =>
    cases r with
    | some r => simp [dirOp, pureOp] at e
    | none => cases e; simp [makeMapA]
  case store t x v =>
    obtain ⟨q, hq, e⟩ := Option.map_eq_some_iff.1 e
    cases e
    unfold storeA at hq
    repeat' split at hq
    all_goals first
      | (cases hq; done)
      | (cases hq; simp)
  case mapUpdate t m k v =>
    obtain ⟨q, hq, e⟩ := Option.map_eq_some_iff.1 e
    cases e
    unfold mapUpdateA at hq
    repeat' split at hq
    all_goals first
      | (cases hq; done)
      | (cases hq; simp)
  case insert t m k v =>
    obtain ⟨q, hq, e⟩ := Option.map_eq_some_iff.1 e
    cases e
    unfold mapUpdateA at hq
    repeat' split at hq
    all_goals first
      | (cases hq; done)
      | (cases hq; simp)
  all_goals
    simp only [dirOp] at e
    obtain ⟨v, hv, e⟩ := Option.map_eq_some_iff.1 e
    cases e; exact Nat.le_refl _
end Go.Proofs.YtgcdpdkccaabcaaGreat.Ev
