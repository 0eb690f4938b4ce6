/- One operation, by its kind: those that touch no memory; those that read, make, write memory. Conditions: none (definitions and lemmas). -/
import Derived.Test.YtgcdpdkccaabcaaGreatEvD
import Derived.Laws.Append
namespace Go.Proofs.YtgcdpdkccaabcaaGreat.Ev
open Go
set_option linter.unusedVariables false
set_option linter.unusedSimpArgs false
set_option linter.unusedSectionVars false

def nilCheckA : AV → Option AV
  | .ptr i o => some (.ptr i o)
  | .vp xs => some (.vp xs)
  | .fn f a b => some (.fn f a b)
  | _ => none
def lenA (P : Program) (t : TypeId) (x : AV) : Option AV :=
  match P.underlying t, x with
  | some .string, .str s => some (.int .i64 s.size)
  | some (.slice _), .nils => some (.int .i64 0)
  | some (.slice _), .sl _ _ n _ _ _ => some (.int .i64 n)
  | some (.slice _), .vsl _ n _ => some (.int .i64 n)
  | some (.array n _), _ => some (.int .i64 n)
  | _, _ => none
def minmaxA (mx : Bool) (x y : AV) : Option AV :=
  match x, y with
  | .int k a, .int _ b => some (.int k (if mx then (if b > a then b else a) else (if b < a then b else a)))
  | _, _ => none
def extractA (x : AV) (i : Nat) : Option AV :=
  match x with
  | .tup vs => vs[i]?
  | _ => none

def builtinA (P : Program) (env : List AV) (c : Call) : Option AV :=
  match c.callee with
  | .builtin .len => match c.args.toList, c.argTypes.toList with
    | [x], [t] => lenA P t (evalA env x)
    | _, _ => none
  | .builtin .max => match c.args.toList with
    | [x, y] => minmaxA true (evalA env x) (evalA env y)
    | _ => none
  | .builtin .min => match c.args.toList with
    | [x, y] => minmaxA false (evalA env x) (evalA env y)
    | _ => none
  | _ => none

/-- The operations that touch no memory. -/
def pureOp (P : Program) (E : Eqs) (env : List AV) : Op → Option AV
  | .move x | .assign x => some (evalA env x)
  | .pick c a b => match evalA env c with
    | .bool t => some (if t then evalA env a else evalA env b)
    | _ => none
  | .build t parts => buildA P t (parts.toList.map fun q => (q.1, evalA env q.2))
  | .nilCheck x => nilCheckA (evalA env x)
  | .binOp op t x y _ => binA P E op t (evalA env x) (evalA env y)
  | .unOp op _ x => unA op (evalA env x)
  | .convert s d x => convA P s d (evalA env x)
  | .makeFunc (.func f) first cap => some (.fn f (first.toList.map (evalA env)) (cap.toList.map (evalA env)))
  | .slice t x lo hi mx => sliceA P t (evalA env x) (lo.map (evalA env)) (hi.map (evalA env)) (mx.map (evalA env))
  | .fieldAddr s x i => fieldAddrA P s (evalA env x) i
  | .field s x i => fieldA P s (evalA env x) i
  | .indexAddr t x i => indexAddrA P t (evalA env x) (evalA env i)
  | .index t x i => indexA P t (evalA env x) (evalA env i)
  | .extract t i => extractA (evalA env t) i
  | .call c => builtinA P env c
  | _ => none

/-- The operands stand for what they stand for. -/
def OpsR (L : LC) (env : List AV) (a : Act) (xs : Array Operand) : Prop := ∀ x ∈ xs, RV L (evalA env x) (a.eval x)
theorem OpsR.of {L : LC} {env : List AV} {a : Act} (h : RVs L env a.tmps.toList) (xs : Array Operand) : OpsR L env a xs := fun x _ => evalA_rel h x
theorem RO_map {L : LC} {env : List AV} {a : Act} (x : Option Operand) (h : ∀ o, x = some o → RV L (evalA env o) (a.eval o)) : RO L (x.map (evalA env)) (x.map a.eval) := by
  constructor
  · intro y hy
    obtain ⟨o, rfl, rfl⟩ := Option.map_eq_some_iff.1 hy
    exact ⟨_, rfl, h o rfl⟩
  · intro hy
    cases x with
    | none => rfl
    | some _ => cases hy
theorem evals_rel {L : LC} {env : List AV} {a : Act} (xs : List Operand) (h : ∀ x ∈ xs, RV L (evalA env x) (a.eval x)) : RVs L (xs.map (evalA env)) (xs.map a.eval) := RVs.map xs h

theorem pureOp_run {P : Program} {E : Eqs} (hE : EqsOk P E) {L : LC} {env : List AV} {a : Act} {o : Oper} (henv : OpsR L env a o.op.operands) {z : AV} (h : pureOp P E env o.op = some z) (w : World) :
    ∃ v, (execOp a.eval o).run P w = .ok (.value v) w ∧ RV L z v := by
  have lift : ∀ {s : Sem Value}, (∃ r, s.run P w = .ok r w ∧ RV L z r) → (execOp a.eval o = (do pure (.value (← s)))) → ∃ v, (execOp a.eval o).run P w = .ok (.value v) w ∧ RV L z v := by
    intro s hs he
    obtain ⟨r, hr, hz⟩ := hs
    exact ⟨r, by rw [he]; simp [hr], hz⟩
  obtain ⟨dst, op, ty, pos, after, guard⟩ := o
  simp only at h
  cases op <;> simp only [pureOp, reduceCtorEq] at h
  case move x => cases h; exact ⟨a.eval x, by simp [execOp], henv x (by simp [Op.operands, Call.operands])⟩
  case assign x => cases h; exact ⟨a.eval x, by simp [execOp], henv x (by simp [Op.operands, Call.operands])⟩
  case pick c x y =>
    split at h
    · rename_i t ht
      cases h
      have hc := henv c (by simp [Op.operands, Call.operands])
      rw [ht] at hc
      have hc' : a.eval c = .bool t := hc
      refine ⟨if t then a.eval x else a.eval y, by simp [execOp, hc', asBool], ?_⟩
      cases t
      · exact henv y (by simp [Op.operands, Call.operands])
      · exact henv x (by simp [Op.operands, Call.operands])
    · cases h
  case build t parts =>
    refine lift (buildA_run (vparts := parts.map fun q => (q.1, a.eval q.2)) h ?_ ?_ w) rfl
    · simp [List.map_map, Function.comp_def]
    · simp only [Array.toList_map, List.map_map, Function.comp_def]
      exact RVs.map _ fun q hq => (henv q.2 (by simp only [Op.operands]; simp; exact ⟨q.1, by simpa using hq⟩))
  case nilCheck x =>
    have hx := henv x (by simp [Op.operands, Call.operands])
    unfold nilCheckA at h
    split at h
    · rename_i i o e
      cases h
      rw [e] at hx
      obtain ⟨p, hp, hv⟩ := hx
      exact ⟨_, by simp [execOp, hv], p, hp, rfl⟩
    · rename_i xs e
      cases h
      rw [e] at hx
      have hx' := hx
      simp only [RV] at hx'
      obtain ⟨b, o, c, hm, hv, hr⟩ := hx'
      exact ⟨_, by simp [execOp, hv], b, o, c, hm, rfl, hr⟩
    · rename_i f p q e
      cases h
      rw [e] at hx
      obtain ⟨v1, v2, hv, hr⟩ := hx
      exact ⟨_, by simp [execOp, hv], v1, v2, rfl, hr⟩
    · cases h
  case binOp op t x y yt => exact lift (binA_run hE h (henv x (by simp [Op.operands, Call.operands])) (henv y (by simp [Op.operands, Call.operands])) w x y) rfl
  case unOp op t x => exact lift (unA_run h (henv x (by simp [Op.operands, Call.operands])) w) rfl
  case convert s d x => exact lift (convA_run h (henv x (by simp [Op.operands, Call.operands])) w) rfl
  case makeFunc fn first cap =>
    cases fn <;> simp only [reduceCtorEq] at h
    cases h
    refine ⟨_, by simp only [execOp, Instr.makeFunc]; rfl, _, _, rfl, ?_, ?_⟩
    · rw [Array.toList_map]; exact evals_rel _ fun x hx => henv x (by simp [Op.operands]; exact .inl (by simpa using hx))
    · rw [Array.toList_map]; exact evals_rel _ fun x hx => henv x (by simp [Op.operands]; exact .inr (by simpa using hx))
  case slice t x lo hi mx => exact lift (sliceA_run h (henv x (by simp [Op.operands, Call.operands])) (RO_map lo fun o ho => henv o (by simp [Op.operands, ho])) (RO_map hi fun o ho => henv o (by simp [Op.operands, ho])) (RO_map mx fun o ho => henv o (by simp [Op.operands, ho])) w) rfl
  case fieldAddr s x i => exact lift (fieldAddrA_run h (henv x (by simp [Op.operands, Call.operands])) w) rfl
  case field s x i => exact lift (fieldA_run h (henv x (by simp [Op.operands, Call.operands])) w) rfl
  case indexAddr t x i => exact lift (indexAddrA_run h (henv x (by simp [Op.operands, Call.operands])) (henv i (by simp [Op.operands, Call.operands])) w) rfl
  case index t x i => exact lift (indexA_run h (henv x (by simp [Op.operands, Call.operands])) (henv i (by simp [Op.operands, Call.operands])) w) rfl
  case extract t i =>
    have hx := henv t (by simp [Op.operands, Call.operands])
    unfold extractA at h
    split at h
    · rename_i vs e
      rw [e] at hx
      obtain ⟨us, hu, hus⟩ := hx
      obtain ⟨r, hr, hz⟩ := hus.get_some h
      have hr' : us[i]? = some r := by simpa using hr
      exact ⟨r, by simp [execOp, Instr.extract, hu, hr'], hz⟩
    · cases h
  case call c =>
    obtain ⟨callee, args, ts⟩ := c
    obtain ⟨args⟩ := args
    obtain ⟨ts⟩ := ts
    cases callee <;> simp only [builtinA, reduceCtorEq] at h
    rename_i b
    cases b <;> simp only [reduceCtorEq] at h
    case len =>
      split at h
      · rename_i x t
        have hx := henv x (by simp [Op.operands, Call.operands])
        have key : ∃ r, (Builtin.len_ #[t] ty #[a.eval x]).run P w = .ok r w ∧ RV L z r := by
          generalize evalA env x = y at h hx
          generalize a.eval x = v at hx
          unfold lenA at h
          split at h <;> try simp only [RV] at hx
          · rename_i s hu; cases h; subst hx; exact ⟨_, by simp [Builtin.len_, run_underlying hu]; rfl, rfl⟩
          · rename_i e hu; cases h; subst hx; exact ⟨_, by simp [Builtin.len_, run_underlying hu]; rfl, rfl⟩
          · rename_i e id off n lo ex es hu; cases h
            obtain ⟨p, c, hp, rfl, _⟩ := hx
            exact ⟨_, by simp [Builtin.len_, run_underlying hu]; rfl, rfl⟩
          · rename_i e xs n c hu; cases h
            obtain ⟨p, c, rfl, _⟩ := hx
            exact ⟨_, by simp [Builtin.len_, run_underlying hu]; rfl, rfl⟩
          · rename_i n e hu; cases h
            exact ⟨_, by simp [Builtin.len_, run_underlying hu]; rfl, rfl⟩
          · cases h
        obtain ⟨r, hr, hz⟩ := key
        exact ⟨r, by simp [execOp, resolve, invoke, builtin, hr], hz⟩
      · cases h
    case max =>
      split at h
      · rename_i x y
        have hx := henv x (by simp [Op.operands, Call.operands])
        have hy := henv y (by simp [Op.operands, Call.operands])
        unfold minmaxA at h
        split at h
        · rename_i k p k' q e1 e2
          rw [e1] at hx; rw [e2] at hy
          cases h
          have hx' : a.eval x = .int k p := hx
          have hy' : a.eval y = .int k' q := hy
          exact ⟨.int k (if q > p then q else p), by simp [execOp, resolve, invoke, builtin, Builtin.max_, hx', hy', Builtin.max2], by simp [RV]⟩
        · cases h
      · cases h
    case min =>
      split at h
      · rename_i x y
        have hx := henv x (by simp [Op.operands, Call.operands])
        have hy := henv y (by simp [Op.operands, Call.operands])
        unfold minmaxA at h
        split at h
        · rename_i k p k' q e1 e2
          rw [e1] at hx; rw [e2] at hy
          cases h
          have hx' : a.eval x = .int k p := hx
          have hy' : a.eval y = .int k' q := hy
          exact ⟨.int k (if q < p then q else p), by simp [execOp, resolve, invoke, builtin, Builtin.min_, hx', hy', Builtin.min2], by simp [RV]⟩
        · cases h
      · cases h

/-! ### memory -/
/-- What an operation reads, what it writes (of what lay there). -/
structure Eff where
  rd : List Nat
  wr : List Nat
def Eff.none : Eff := ⟨[], []⟩
def Eff.fp (e : Eff) (id : Nat) : Prop := id ∈ e.rd ∨ id ∈ e.wr

def cellsAt (h : Heap) (id : Nat) : Option (List AV) := match h[id]? with | some (.cells cs _) => some cs | _ => none
/-- What a pointer shows. -/
def viewA (h : Heap) : AV → Option (List AV × List Nat)
  | .ptr id off => (cellsAt h id).map fun cs => (cs.drop off, [id])
  | .vp xs => some (xs, [])
  | _ => none
def loadA (P : Program) (h : Heap) (t : TypeId) (x : AV) : Option (AV × List Nat) :=
  match viewA h x, P.underlying t with
  | some (cs, rd), some _ =>
    if isAggB P t then match szA P t with
      | some n => if n ≤ cs.length then some (.agg (cs.take n), rd) else none
      | none => none
    else match cs with
      | c :: _ => some (c, rd)
      | [] => none
  | _, _ => none

theorem cellsAt_eq {h : Heap} {id : Nat} {cs : List AV} (e : cellsAt h id = some cs) : ∃ t, h[id]? = some (.cells cs t) := by
  unfold cellsAt at e
  split at e
  · rename_i cs' t k; cases e; exact ⟨t, k⟩
  · cases e

/-- A place of memory, cell by cell. -/
def Shows (L : LC) (w : World) (b o : Nat) (cs : List AV) : Prop := ∃ c e fr, w.heap[b]? = some (.cells c e fr) ∧ RVs L cs ((c.toList.drop o).take cs.length)
theorem Shows.get {L : LC} {w : World} {b o : Nat} {cs : List AV} (h : Shows L w b o cs) {i : Nat} {x : AV} (hx : cs[i]? = some x) : ∃ v, w.cell? ⟨b, o + i, none⟩ = some v ∧ RV L x v := by
  obtain ⟨c, e, fr, hb, hr⟩ := h
  obtain ⟨v, hv, hz⟩ := hr.get_some hx
  refine ⟨v, ?_, hz⟩
  have hi : i < cs.length := (List.getElem?_eq_some_iff.1 hx).1
  rw [List.getElem?_take_of_lt hi, List.getElem?_drop, Array.getElem?_toList] at hv
  simp [World.cell?, hb, hv]
theorem Shows.drop {L : LC} {w : World} {b o : Nat} {cs : List AV} (h : Shows L w b o cs) (n : Nat) : Shows L w b (o + n) (cs.drop n) := by
  obtain ⟨c, e, fr, hb, hr⟩ := h
  refine ⟨c, e, fr, hb, ?_⟩
  have := hr.drop n
  rw [List.drop_take, List.drop_drop] at this
  rw [List.length_drop]
  exact this
theorem Shows.take {L : LC} {w : World} {b o : Nat} {cs : List AV} (h : Shows L w b o cs) (n : Nat) : Shows L w b o (cs.take n) := by
  obtain ⟨c, e, fr, hb, hr⟩ := h
  refine ⟨c, e, fr, hb, ?_⟩
  have := hr.take n
  rw [List.take_take] at this
  rw [List.length_take]
  exact this
theorem viewA_rel {fp : Nat → Prop} {L : LC} {h : Heap} {w : World} (s : SatOn fp L h w) {x : AV} {cs : List AV} {rd : List Nat} (e : viewA h x = some (cs, rd)) (hfp : ∀ id ∈ rd, fp id) {v : Value} (hx : RV L x v) :
    ∃ b o, v = .pointer (some ⟨b, o, none⟩) ∧ Shows L w b o cs := by
  unfold viewA at e
  split at e
  · rename_i id off
    obtain ⟨ds, hds, e⟩ := Option.map_eq_some_iff.1 e
    cases e
    obtain ⟨t, ht⟩ := cellsAt_eq hds
    simp only [RV] at hx
    obtain ⟨p, hp, rfl⟩ := hx
    rcases hp with hp | hp
    · have := s.dead id hp (hfp id (by simp)); rw [ht] at this; cases this
    · have hb := s.blk id p (hfp id (by simp)) hp
      rw [ht] at hb
      obtain ⟨c, h1, h2, h3, h4⟩ := hb
      have sh : Shows L w p.b p.o ds := ⟨c, t, _, h1, h4⟩
      exact ⟨p.b, p.o + off, rfl, sh.drop off⟩
  · cases e
    simp only [RV] at hx
    obtain ⟨b, o, c, hm, rfl, hr⟩ := hx
    obtain ⟨cs', e', fr, h1, h2⟩ := s.imm b c hm
    exact ⟨b, o, rfl, cs', e', fr, h1, by rw [h2]; exact hr⟩
  · cases e

theorem loadCellsFrom_run {P : Program} {L : LC} {w : World} {b o : Nat} {cs : List AV} (sh : Shows L w b o cs) : ∀ (n i : Nat) (acc : Array Value) (xs : List AV), i + n ≤ cs.length → RVs L xs acc.toList →
    ∃ vs, (loadCellsFrom ⟨b, o, none⟩ i n acc).run P w = .ok vs w ∧ RVs L (xs ++ (cs.drop i).take n) vs.toList := by
  intro n
  induction n with
  | zero => intro i acc xs _ hr; exact ⟨acc, rfl, by simpa using hr⟩
  | succ n ih =>
    intro i acc xs hn hr
    have hi : i < cs.length := by omega
    obtain ⟨v, hv, hz⟩ := sh.get (List.getElem?_eq_getElem hi)
    obtain ⟨vs, h1, h2⟩ := ih (i + 1) (acc.push v) (xs ++ [cs[i]]) (by omega) (by simpa using hr.snoc hz)
    refine ⟨vs, ?_, ?_⟩
    · simp only [loadCellsFrom, Sem.run_bind, add_plain, run_load, hv, Result.andThen_ok]
      exact h1
    · have : (cs.drop i).take (n + 1) = cs[i] :: (cs.drop (i + 1)).take n := by
        rw [List.drop_eq_getElem_cons hi, List.take_succ_cons]
      rw [this]
      simpa using h2
theorem loadCells_run {P : Program} {L : LC} {w : World} {b o : Nat} {cs : List AV} (sh : Shows L w b o cs) {n : Nat} (hn : n ≤ cs.length) :
    ∃ vs, (loadCells ⟨b, o, none⟩ n).run P w = .ok vs w ∧ RVs L (cs.take n) vs.toList := by
  obtain ⟨vs, h1, h2⟩ := loadCellsFrom_run (P := P) sh n 0 #[] [] (by omega) RVs.nil
  exact ⟨vs, h1, by simpa using h2⟩
theorem loadA_run {P : Program} {fp : Nat → Prop} {L : LC} {h : Heap} {w : World} (s : SatOn fp L h w) {t : TypeId} {x z : AV} {rd : List Nat} (e : loadA P h t x = some (z, rd)) (hfp : ∀ id ∈ rd, fp id) {v : Value} (hx : RV L x v) :
    ∃ r, (Instr.loadAt t v).run P w = .ok r w ∧ RV L z r := by
  unfold loadA at e
  split at e
  · rename_i cs rd' d hv hu
    have hrd : rd' = rd := by
      split at e
      · split at e
        · split at e <;> cases e; rfl
        · cases e
      · split at e <;> cases e; rfl
    subst hrd
    obtain ⟨b, o, rfl, sh⟩ := viewA_rel s hv hfp hx
    by_cases ha : isAggB P t = true
    · rw [if_pos ha] at e
      cases hn : szA P t with
      | none => simp [hn] at e
      | some n =>
        simp only [hn] at e
        by_cases hle : n ≤ cs.length
        · rw [if_pos hle] at e
          cases e
          obtain ⟨vs, h1, h2⟩ := loadCells_run (P := P) sh hle
          exact ⟨.agg vs, by simp [Instr.loadAt, Instr.sureAddr, loadVar, run_isAgg' w hu, ha, run_sizeOf' w hn, h1], _, rfl, h2⟩
        · rw [if_neg hle] at e; cases e
    · rw [if_neg ha] at e
      split at e
      · rename_i c cs'
        cases e
        obtain ⟨v, hv, hz⟩ := sh.get (i := 0) (x := z) rfl
        exact ⟨v, by simp [Instr.loadAt, Instr.sureAddr, loadVar, run_isAgg' w hu, ha, show w.cell? ⟨b, o, none⟩ = some v from hv], hz⟩
      · cases e
  · cases e
end Go.Proofs.YtgcdpdkccaabcaaGreat.Ev
