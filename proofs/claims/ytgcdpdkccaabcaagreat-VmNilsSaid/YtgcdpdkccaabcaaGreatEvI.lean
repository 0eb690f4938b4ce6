/- Maps. Conditions: none (definitions and lemmas). -/
import Derived.Test.YtgcdpdkccaabcaaGreatEvH
namespace Go.Proofs.YtgcdpdkccaabcaaGreat.Ev
open Go
set_option linter.unusedVariables false
set_option linter.unusedSimpArgs false
set_option linter.unusedSectionVars false

def keyEq (P : Program) (E : Eqs) (kt : TypeId) (x y : AV) : Option Bool :=
  match P.underlying kt, x, y with
  | some (.int _), .int k a, .int k' b => if k = k' then some (a == b) else none
  | some .string, .str a, .str b => some (strEq a b)
  | some (.struct _), .agg xs, .agg ys => match E.lookup kt with
    | some ks => eqCells ks xs ys
    | none => none
  | _, _, _ => none
def findA (P : Program) (E : Eqs) (kt : TypeId) (k : AV) : List (AV × AV) → Option (Option Nat)
  | [] => some none
  | e :: es => match keyEq P E kt k e.1 with
    | some true => some (some 0)
    | some false => (findA P E kt k es).map fun r => r.map (· + 1)
    | none => none

theorem strEq_eq {a b : ByteArray} (h : strEq a b = true) : a = b := by
  have : a.data.toList = b.data.toList := by simpa [strEq] using h
  obtain ⟨⟨x⟩⟩ := a
  obtain ⟨⟨y⟩⟩ := b
  simp only at this
  subst this; rfl
theorem eqLeaf_same {L : LC} {k : LK} {x y : AV} {v u : Value} (h : eqLeaf k x y = some true) (hx : RV L x v) (hy : RV L y u) : v = u ∧ ∀ n, Instr.sameBits n v u = true := by
  unfold eqLeaf at h
  split at h <;> try simp only [RV] at hx hy
  · rename_i k a k' b
    by_cases hk : k = k'
    · rw [if_pos hk] at h
      have e : a = b := by simpa using h
      subst hk; subst e; subst hx; subst hy
      exact ⟨rfl, fun n => by cases n <;> simp [Instr.sameBits]⟩
    · rw [if_neg hk] at h; cases h
  · rename_i a b
    have e : a = b := strEq_eq (by simpa [strEq] using h)
    subst e; subst hx; subst hy
    have hb : (a == a) = true := by rw [beq_toListBytes]; simp
    exact ⟨rfl, fun n => by cases n <;> simp only [Instr.sameBits, hb]⟩
  · rename_i a b
    have e : a = b := by simpa using h
    subst e; subst hx; subst hy
    exact ⟨rfl, fun n => by cases n <;> simp [Instr.sameBits]⟩
  · cases h
theorem eqCells_same {L : LC} : ∀ {ks : List LK} {xs ys : List AV} {vs us : List Value}, eqCells ks xs ys = some true → RVs L xs vs → RVs L ys us → vs = us ∧ ∀ n, (vs.zip us).all (fun (x, y) => Instr.sameBits n x y) = true
  | [], [], [], vs, us, _, hx, hy => by
    cases vs <;> cases us <;> simp [RVs] at hx hy
    exact ⟨rfl, fun _ => rfl⟩
  | k :: ks, x :: xs, y :: ys, vs, us, h, hx, hy => by
    cases vs with
    | nil => simp [RVs] at hx
    | cons v vs => cases us with
      | nil => simp [RVs] at hy
      | cons u us =>
        simp only [RVs] at hx hy
        simp only [eqCells] at h
        cases hl : eqLeaf k x y with
        | none => simp [hl] at h
        | some b =>
          cases b
          · simp [hl] at h
          · simp only [hl] at h
            obtain ⟨e1, e2⟩ := eqLeaf_same hl hx.1 hy.1
            obtain ⟨e3, e4⟩ := eqCells_same h hx.2 hy.2
            subst e1; subst e3
            exact ⟨rfl, fun n => by simp only [List.zip_cons_cons, List.all_cons, e2 n, e4 n, Bool.and_self]⟩
  | [], [], _ :: _, _, _, h, _, _ => by simp [eqCells] at h
  | [], _ :: _, _, _, _, h, _, _ => by simp [eqCells] at h
  | _ :: _, [], _, _, _, h, _, _ => by simp [eqCells] at h
  | _ :: _, _ :: _, [], _, _, h, _, _ => by simp [eqCells] at h

structure KeyRun (P : Program) (kt : TypeId) (v u : Value) (b : Bool) : Prop where
  now : (∃ d, P.underlying kt = some d ∧ Instr.sameNow d v u = some b) ∨ ((∃ d, P.underlying kt = some d ∧ Instr.sameNow d v u = none ∧ ∀ y z, Instr.sameNow d y z = none) ∧ ∀ w, (Op.equal kt v u).run P w = .ok b w)
  bits : b = true → Instr.sameBits 10000 u v = true
theorem keyEq_run {P : Program} {E : Eqs} (hE : EqsOk P E) {L : LC} {kt : TypeId} {x y : AV} {v u : Value} {b : Bool} (h : keyEq P E kt x y = some b) (hx : RV L x v) (hy : RV L y u) : KeyRun P kt v u b := by
  unfold keyEq at h
  split at h <;> try simp only [RV] at hx hy
  · rename_i q k a k' c hu
    subst hx; subst hy
    by_cases hk : k = k'
    · rw [if_pos hk] at h
      subst hk
      refine ⟨.inl ⟨_, hu, by simpa [Instr.sameNow] using h⟩, fun hb => ?_⟩
      subst hb
      have e : a = c := by simpa using h
      subst e
      simp [Instr.sameBits]
    · rw [if_neg hk] at h; cases h
  · rename_i a c hu
    subst hx; subst hy
    refine ⟨.inl ⟨_, hu, ?_⟩, fun hb => ?_⟩
    · simp only [Instr.sameNow]
      rw [beq_toListBytes, ByteArray.toList_eq, ByteArray.toList_eq]
      exact h
    · subst hb
      have e := strEq_eq (Option.some.inj h)
      subst e
      have hb : (a == a) = true := by rw [beq_toListBytes]; simp
      simp only [Instr.sameBits, hb]
  · rename_i fs xs ys hu
    obtain ⟨vs, rfl, hvs⟩ := hx
    obtain ⟨us, rfl, hus⟩ := hy
    cases hl : E.lookup kt with
    | none => simp [hl] at h
    | some ks =>
      simp only [hl] at h
      refine ⟨.inr ⟨⟨_, hu, rfl, fun _ _ => rfl⟩, fun w => (hE kt ks hl).eq L w xs ys vs us b hvs hus h⟩, fun hb => ?_⟩
      subst hb
      obtain ⟨e1, e2⟩ := eqCells_same h hvs hus
      have e3 : vs = us := by
        have := congrArg List.toArray e1
        simpa using this
      subst e3
      have := e2 9999
      show Instr.sameBits (9999 + 1) (.agg vs) (.agg vs) = true
      simp only [Instr.sameBits, beq_self_eq_true, Bool.true_and]
      exact this
  · cases h

theorem findNow_run {P : Program} {E : Eqs} (hE : EqsOk P E) {L : LC} {kt : TypeId} {d : TypeDesc} (hd : P.underlying kt = some d) {x : AV} {v : Value} (hx : RV L x v) (hnow : ∀ y z, Instr.sameNow d y z = none → False ∨ True) :
    ∀ {es : List (AV × AV)} {r : Option Nat} {fs : List MapEntry} (i : Nat), findA P E kt x es = some r → RVs L (es.map (·.1)) (fs.map (·.key)) →
      (∀ e ∈ es, ∀ u, RV L e.1 u → ∀ b, keyEq P E kt x e.1 = some b → Instr.sameNow d v u = some b) →
      Instr.findNow d v fs i = some (r.bind fun j => (fs[j]?).map fun e => (i + j, e.val)) ∧ (∀ j, r = some j → ∃ f, fs[j]? = some f ∧ ∃ e, es[j]? = some e ∧ keyEq P E kt x e.1 = some true) := by
  intro es
  induction es with
  | nil =>
    intro r fs i h hr _
    simp only [findA, Option.some.injEq] at h
    subst h
    cases fs with
    | nil => exact ⟨rfl, fun j e => by cases e⟩
    | cons _ _ => simp [RVs] at hr
  | cons e es ih =>
    intro r fs i h hr hn
    cases fs with
    | nil => simp [RVs] at hr
    | cons f fs =>
      simp only [List.map_cons, RVs] at hr
      simp only [findA] at h
      cases hk : keyEq P E kt x e.1 with
      | none => simp [hk] at h
      | some b =>
        have hs := hn e (by simp) f.key hr.1 b hk
        cases b
        · simp only [hk] at h
          obtain ⟨r0, h0, rfl⟩ := Option.map_eq_some_iff.1 h
          obtain ⟨h1, h2⟩ := ih (i + 1) h0 hr.2 (fun e' he' => hn e' (by simp [he']))
          refine ⟨?_, ?_⟩
          · simp only [Instr.findNow, hs, h1]
            cases r0 with
            | none => rfl
            | some j => simp [Nat.add_assoc, Nat.add_comm 1 j]
          · intro j hj
            cases r0 with
            | none => cases hj
            | some j0 =>
              simp only [Option.map_some, Option.some.injEq] at hj
              subst hj
              simpa using h2 j0 rfl
        · simp only [hk, Option.some.injEq] at h
          subst h
          exact ⟨by simp [Instr.findNow, hs], fun j hj => by
            simp only [Option.some.injEq] at hj
            subst hj
            exact ⟨f, rfl, e, rfl, hk⟩⟩
theorem findAsking_run {P : Program} {E : Eqs} (hE : EqsOk P E) {L : LC} {kt : TypeId} {x : AV} {v : Value} (hx : RV L x v) (w : World) :
    ∀ {es : List (AV × AV)} {r : Option Nat} {fs : List MapEntry} (i : Nat), findA P E kt x es = some r → RVs L (es.map (·.1)) (fs.map (·.key)) →
      (∀ e ∈ es, ∀ u, RV L e.1 u → ∀ b, keyEq P E kt x e.1 = some b → (Op.equal kt v u).run P w = .ok b w) →
      (Instr.findAsking kt v fs i).run P w = .ok (r.bind fun j => (fs[j]?).map fun e => (i + j, e.val)) w ∧ (∀ j, r = some j → ∃ f, fs[j]? = some f ∧ ∃ e, es[j]? = some e ∧ keyEq P E kt x e.1 = some true) := by
  intro es
  induction es with
  | nil =>
    intro r fs i h hr _
    simp only [findA, Option.some.injEq] at h
    subst h
    cases fs with
    | nil => exact ⟨rfl, fun j e => by cases e⟩
    | cons _ _ => simp [RVs] at hr
  | cons e es ih =>
    intro r fs i h hr hn
    cases fs with
    | nil => simp [RVs] at hr
    | cons f fs =>
      simp only [List.map_cons, RVs] at hr
      simp only [findA] at h
      cases hk : keyEq P E kt x e.1 with
      | none => simp [hk] at h
      | some b =>
        have hs := hn e (by simp) f.key hr.1 b hk
        cases b
        · simp only [hk] at h
          obtain ⟨r0, h0, rfl⟩ := Option.map_eq_some_iff.1 h
          obtain ⟨h1, h2⟩ := ih (i + 1) h0 hr.2 (fun e' he' => hn e' (by simp [he']))
          refine ⟨?_, ?_⟩
          · simp only [Instr.findAsking, Sem.run_bind, hs, Result.andThen_ok, Bool.false_eq_true, if_false, h1]
            cases r0 with
            | none => rfl
            | some j => simp [Nat.add_assoc, Nat.add_comm 1 j]
          · intro j hj
            cases r0 with
            | none => cases hj
            | some j0 =>
              simp only [Option.map_some, Option.some.injEq] at hj
              subst hj
              simpa using h2 j0 rfl
        · simp only [hk, Option.some.injEq] at h
          subst h
          exact ⟨by simp [Instr.findAsking, hs], fun j hj => by
            simp only [Option.some.injEq] at hj
            subst hj
            exact ⟨f, rfl, e, rfl, hk⟩⟩
theorem findA_run {P : Program} {E : Eqs} (hE : EqsOk P E) {L : LC} {kt : TypeId} {x : AV} {v : Value} (hx : RV L x v) (w : World) {d : TypeDesc} (hd : P.underlying kt = some d)
    {es : List (AV × AV)} {r : Option Nat} {fs : List MapEntry} (h : findA P E kt x es = some r) (hr : RVs L (es.map (·.1)) (fs.map (·.key))) :
      (Instr.findKey kt v fs).run P w = .ok (r.bind fun j => (fs[j]?).map fun e => (j, e.val)) w ∧ (∀ j, r = some j → ∃ f, fs[j]? = some f ∧ ∃ e, es[j]? = some e ∧ keyEq P E kt x e.1 = some true) := by
  by_cases hq : ∀ y z, Instr.sameNow d y z = none
  · cases fs with
    | nil =>
      cases es with
      | cons _ _ => simp [RVs] at hr
      | nil =>
        simp only [findA, Option.some.injEq] at h
        subst h
        exact ⟨by simp [Instr.findKey, run_underlying hd, Instr.findNow], fun j e => by cases e⟩
    | cons f fs =>
      obtain ⟨h1, h2⟩ := findAsking_run hE hx w 0 h hr (fun e _ u hu b hk => by
        rcases (keyEq_run hE hk hx hu).now with ⟨d', hd', hs⟩ | ⟨_, hs⟩
        · rw [hd] at hd'; cases hd'
          rw [hq] at hs; cases hs
        · exact hs w)
      refine ⟨?_, h2⟩
      simp only [Instr.findKey, Sem.run_bind, run_underlying hd, Result.andThen_ok, Instr.findNow, hq]
      simpa using h1
  · obtain ⟨h1, h2⟩ := findNow_run hE hd hx (fun _ _ _ => .inr trivial) 0 h hr (fun e _ u hu b hk => by
      rcases (keyEq_run hE hk hx hu).now with ⟨d', hd', hs⟩ | ⟨⟨d', hd', _, hs⟩, _⟩
      · rw [hd] at hd'; cases hd'
        exact hs
      · rw [hd] at hd'; cases hd'
        exact absurd hs hq)
    refine ⟨?_, h2⟩
    simp only [Instr.findKey, Sem.run_bind, run_underlying hd, Result.andThen_ok, h1, Sem.run_pure]
    simp

/-- A key's type and the key: nothing in it that can't be hashed. -/
def keyOkA (P : Program) (E : Eqs) (kt : TypeId) (x : AV) : Bool :=
  match P.underlying kt, x with
  | some (.int _), .int _ _ => true
  | some .string, .str _ => true
  | some (.struct _), .agg xs => match E.lookup kt with
    | some ks => match eqCells ks xs xs with | some true => true | _ => false
    | none => false
  | _, _ => false
theorem checkKey_leaf {P : Program} {kt : TypeId} {v : Value} {empty : Bool} (n : Nat) (hu : (∃ q, P.underlying kt = some (.int q)) ∨ P.underlying kt = some .string) (hv : (∃ k a, v = .int k a) ∨ (∃ a, v = .string a)) (w : World) :
    (Instr.checkKey empty (n + 1) kt v).run P w = .ok () w := by
  rcases hu with ⟨q, hu⟩ | hu <;> rcases hv with ⟨k, a, rfl⟩ | ⟨a, rfl⟩ <;> simp [Instr.checkKey, run_underlying hu]
theorem keyOk_run {P : Program} {E : Eqs} (hE : EqsOk P E) {L : LC} {kt : TypeId} {x : AV} {v : Value} (h : keyOkA P E kt x = true) (hx : RV L x v) (empty : Bool) (w : World) : (Instr.checkKey empty 10000 kt v).run P w = .ok () w ∧ ∃ d, P.underlying kt = some d := by
  unfold keyOkA at h
  split at h
  · rename_i q k a hu
    exact ⟨checkKey_leaf 9999 (.inl ⟨_, hu⟩) (.inl ⟨_, _, hx⟩) w, _, hu⟩
  · rename_i a hu
    exact ⟨checkKey_leaf 9999 (.inr hu) (.inr ⟨_, hx⟩) w, _, hu⟩
  · rename_i fs xs hu
    obtain ⟨vs, rfl, hvs⟩ := hx
    split at h
    · rename_i ks hl
      split at h
      · rename_i he
        exact ⟨(hE kt ks hl).key L w empty _ vs hvs he, _, hu⟩
      · cases h
    · cases h
  · cases h

def zeroVA (P : Program) (t : TypeId) : Option AV := ((P.info? t).bind (·.zero)).map absV
theorem zeroVA_run {P : Program} {t : TypeId} {z : AV} (h : zeroVA P t = some z) (w : World) (L : LC) : ∃ v, (zeroValue t).run P w = .ok v w ∧ RV L z v := by
  unfold zeroVA at h
  obtain ⟨v, hv, rfl⟩ := Option.map_eq_some_iff.1 h
  obtain ⟨i, hi, hz⟩ := Option.bind_eq_some_iff.1 hv
  exact ⟨v, by simp [zeroValue, run_typeInfo' w hi, hz], absV_rel L _⟩

def mapAt (h : Heap) : AV → Option (List (AV × AV) × List Nat)
  | .nilm => some ([], [])
  | .mp id => match h[id]? with
    | some (.mp es) => some (es, [id])
    | _ => none
  | _ => none
def lookupA (P : Program) (E : Eqs) (h : Heap) (t : TypeId) (m k : AV) (ok : Bool) : Option (AV × List Nat) :=
  match P.underlying t, mapAt h m with
  | some (.map kt et), some (es, rd) =>
    if keyOkA P E kt k then match findA P E kt k es, zeroVA P et with
      | some (some i), some _ => match es[i]? with
        | some e => some (if ok then .tup [e.2, .bool true] else e.2, rd)
        | none => none
      | some none, some z => some (if ok then .tup [z, .bool false] else z, rd)
      | _, _ => none
    else none
  | _, _ => none
theorem lookupA_run {P : Program} {E : Eqs} (hE : EqsOk P E) {fp : Nat → Prop} {L : LC} {h : Heap} {w : World} (s : SatOn fp L h w) {t : TypeId} {m k z : AV} {ok : Bool} {rd : List Nat} (e : lookupA P E h t m k ok = some (z, rd)) (hfp : ∀ id ∈ rd, fp id) {vm vk : Value} (hm : RV L m vm) (hk : RV L k vk) :
    ∃ r, (Instr.lookup t vm vk ok).run P w = .ok r w ∧ RV L z r := by
  unfold lookupA at e
  split at e
  case h_2 => cases e
  rename_i kt et es rd' hu hma
  by_cases hok : keyOkA P E kt k = true
  case neg => rw [if_neg hok] at e; cases e
  rw [if_pos hok] at e
  have hrd : rd' = rd := by
    split at e
    · split at e <;> cases e; rfl
    · cases e; rfl
    · cases e
  subst hrd
  -- the entries
  have hes : ∃ fs : Array MapEntry, ((vm = .map none ∧ fs = #[]) ∨ ∃ r clk, vm = .map (some r) ∧ (getObj r).run P w = .ok (.map fs clk) w) ∧ RVs L (es.map (·.1)) (fs.toList.map (·.key)) ∧ RVs L (es.map (·.2)) (fs.toList.map (·.val)) := by
    unfold mapAt at hma
    split at hma
    · cases hma
      simp only [RV] at hm; subst hm
      exact ⟨#[], .inl ⟨rfl, rfl⟩, by simp [RVs], by simp [RVs]⟩
    · rename_i id
      split at hma
      · rename_i es' hb
        cases hma
        simp only [RV] at hm
        obtain ⟨p, hp, rfl⟩ := hm
        rcases hp with hp | hp
        · have := s.dead id hp (hfp id (by simp)); rw [hb] at this; cases this
        · have hblk := s.blk id p (hfp id (by simp)) hp
          rw [hb] at hblk
          obtain ⟨fs, clk, h1, h2, h3⟩ := hblk
          exact ⟨fs, .inr ⟨_, clk, rfl, by simp [getObj, Sem.run, h1]⟩, h2, h3⟩
      · cases hma
    · cases hma
  obtain ⟨fs, hrun, h2, h3⟩ := hes
  have hck := fun empty => (keyOk_run hE hok hk empty w).1
  obtain ⟨d, hd⟩ := (keyOk_run hE hok hk true w).2
  split at e
  · rename_i i z0 hf hz0
    split at e
    · rename_i ent hent
      cases e
      obtain ⟨g1, g2⟩ := findA_run hE hk w hd hf h2
      obtain ⟨f, hfi, _⟩ := g2 i rfl
      have hval : RV L ent.2 f.val := h3.get (i := i) (by simp [hent]) (by simp [hfi])
      simp only [hfi, Option.bind_some, Option.map_some] at g1
      refine ⟨if ok then .tuple #[f.val, .bool true] else f.val, ?_, ?_⟩
      · rcases hrun with ⟨rfl, rfl⟩ | ⟨r, clk, rfl, hrun⟩
        · simp at hfi
        · simp only [Instr.lookup, Sem.run_bind, run_underlying hu, Result.andThen_ok, hrun, hck, g1, Sem.run_pure]
      · cases ok
        · exact hval
        · exact ⟨_, rfl, .cons hval (.cons rfl .nil)⟩
    · cases e
  · rename_i z0 hf hz0
    cases e
    obtain ⟨g1, g2⟩ := findA_run hE hk w hd hf h2
    obtain ⟨zv, hzr, hzv⟩ := zeroVA_run hz0 w L
    simp only [Option.bind_none] at g1
    refine ⟨if ok then .tuple #[zv, .bool false] else zv, ?_, ?_⟩
    · rcases hrun with ⟨rfl, rfl⟩ | ⟨r, clk, rfl, hrun⟩
      · simp only [Instr.lookup, Sem.run_bind, run_underlying hu, Result.andThen_ok, hck, g1, hzr, Sem.run_pure]
      · simp only [Instr.lookup, Sem.run_bind, run_underlying hu, Result.andThen_ok, hrun, hck, g1, hzr, Sem.run_pure]
    · cases ok
      · exact hzv
      · exact ⟨_, rfl, .cons hzv (.cons rfl .nil)⟩
  · cases e

def mapUpdateA (P : Program) (E : Eqs) (h : Heap) (t : TypeId) (m k v : AV) : Option (Heap × Nat) :=
  match P.underlying t, m with
  | some (.map kt _), .mp id => match h[id]? with
    | some (.mp es) =>
      if keyOkA P E kt k then match findA P E kt k es with
        | some (some i) => some (h.set id (.mp (es.set i (k, v))), id)
        | some none => some (h.set id (.mp (es ++ [(k, v)])), id)
        | none => none
      else none
    | _ => none
  | _, _ => none
theorem modify_toList {α β : Type} (l : Array α) (i : Nat) (f : α → α) (x : β) (g : α → β) (hf : ∀ a, g (f a) = x) : (l.modify i f).toList.map g = (l.toList.map g).set i x := by
  apply List.ext_getElem?
  intro j
  simp only [List.getElem?_map, Array.getElem?_toList, Array.getElem?_modify, List.getElem?_set]
  by_cases hij : i = j
  · subst hij
    simp only [if_true]
    cases hl : l[i]? with
    | none =>
      have : l.size ≤ i := by simpa using hl
      simp [this]
    | some a =>
      have : i < l.size := (Array.getElem?_eq_some_iff.1 hl).1
      simp [this, hf]
  · simp [hij]
theorem setObj_turned {w : World} {b : Nat} {x : Obj} (hb : b < w.heap.size) : Turned w { w with heap := w.heap.setIfInBounds b x } b x := by
  refine ⟨rfl, rfl, rfl, by simp, fun b' hb' => ?_, ?_⟩
  · simp [Array.getElem?_setIfInBounds, Ne.symm hb']
  · simp [Array.getElem?_setIfInBounds, hb]
theorem mapUpdateA_run {P : Program} {E : Eqs} (hE : EqsOk P E) {fp : Nat → Prop} {L : LC} {h h' : Heap} {w : World} (s : SatOn fp L h w) {t : TypeId} {m k x : AV} {id : Nat} (e : mapUpdateA P E h t m k x = some (h', id)) (hfp : fp id) {vm vk vx : Value} (hm : RV L m vm) (hk : RV L k vk) (hx : RV L x vx) :
    ∃ w', (Instr.mapUpdate t vm vk vx).run P w = .ok () w' ∧ Stp (fun i => i = id) L h w L h' w' := by
  unfold mapUpdateA at e
  split at e
  case h_2 => cases e
  rename_i kt et id' hu
  split at e
  case h_2 => cases e
  rename_i es hb
  by_cases hok : keyOkA P E kt k = true
  case neg => rw [if_neg hok] at e; cases e
  rw [if_pos hok] at e
  have hid : id' = id := by
    split at e
    · cases e; rfl
    · cases e; rfl
    · cases e
  subst hid
  simp only [RV] at hm
  obtain ⟨p, hp, rfl⟩ := hm
  rcases hp with hp | hp
  · have := s.dead id' hp hfp; rw [hb] at this; cases this
  have hblk := s.blk id' p hfp hp
  rw [hb] at hblk
  obtain ⟨fs, clk, h1, h2, h3⟩ := hblk
  have hck := fun empty => (keyOk_run hE hok hk empty w).1
  obtain ⟨d, hd⟩ := (keyOk_run hE hok hk true w).2
  have hget : (getObj p.b).run P w = .ok (.map fs clk) w := by simp [getObj, Sem.run, h1]
  have hset : ∀ o, (setObj p.b o).run P w = .ok () { w with heap := w.heap.setIfInBounds p.b o } := by
    intro o; simp [setObj, Sem.run, h1]
  have hlt := lt_of_heap h1
  split at e
  · rename_i i hf
    cases e
    obtain ⟨g1, g2⟩ := findA_run hE hk w hd hf h2
    obtain ⟨f, hfi, ent, hent, hke⟩ := g2 i rfl
    have hkey : RV L ent.1 f.key := h2.get (i := i) (by simp [hent]) (by simp [hfi])
    have hbits := (keyEq_run hE hke hk hkey).bits rfl
    simp only [hfi, Option.bind_some, Option.map_some] at g1
    have hfi' : fs[i]? = some f := by simpa using hfi
    have ht := setObj_turned (x := .map (fs.modify i fun e => { e with key := vk, val := vx }) clk) hlt
    refine ⟨_, ?_, Stp.write s _ (fun i (hi : i = id') => hi ▸ hfp) id' rfl p hp (.mp (es.set i (k, x))) ht.os ht.tape ht.output ht.size ht.keep ⟨_, clk, ht.here, ?_, ?_⟩⟩
    · simp only [Instr.mapUpdate, Sem.run_bind, run_underlying hu, Result.andThen_ok, hget, hck, g1, hfi', Option.map_some, Option.getD_some, Instr.keyThatStays, hbits, if_true, Sem.run_pure, hset]
    · rw [modify_toList fs i _ vk (·.key) (fun _ => rfl), List.map_set]
      exact h2.set i hk
    · rw [modify_toList fs i _ vx (·.val) (fun _ => rfl), List.map_set]
      exact h3.set i hx
  · rename_i hf
    cases e
    obtain ⟨g1, g2⟩ := findA_run hE hk w hd hf h2
    simp only [Option.bind_none] at g1
    have ht := setObj_turned (x := .map (fs.push { key := vk, val := vx, born := clk }) (clk + 1)) hlt
    refine ⟨_, ?_, Stp.write s _ (fun i (hi : i = id') => hi ▸ hfp) id' rfl p hp (.mp (es ++ [(k, x)])) ht.os ht.tape ht.output ht.size ht.keep ⟨_, _, ht.here, ?_, ?_⟩⟩
    · simp only [Instr.mapUpdate, Sem.run_bind, run_underlying hu, Result.andThen_ok, hget, hck, g1, hset]
    · simpa using h2.snoc hk
    · simpa using h3.snoc hx
  · cases e

def makeMapA (h : Heap) : AV × Heap := (.mp h.length, h ++ [.mp []])
theorem makeMapA_run {P : Program} {fp : Nat → Prop} {L : LC} {h : Heap} {w : World} (s : SatOn fp L h w) (t : TypeId) :
    ∃ v w' L', (Instr.makeMap t none).run P w = .ok v w' ∧ Stp (fun _ => False) L h w L' (makeMapA h).2 w' ∧ RV L' (makeMapA h).1 v := by
  have st := Stp.fresh s (fun _ => False) (fun _ f => f.elim) (.map #[] 0) (.mp []) 0 (fun L' hL => ⟨#[], 0, pushed_new, by simp [RVs], by simp [RVs]⟩)
  refine ⟨_, _, _, ?_, st, _, .inr new_ρ, rfl⟩
  simp [Instr.makeMap, pushed]
end Go.Proofs.YtgcdpdkccaabcaaGreat.Ev
