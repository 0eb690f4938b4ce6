/- The operations that touch no memory: what they answer on abstract values, and that the model answers so. Conditions: none (definitions and lemmas). -/
import Derived.Test.YtgcdpdkccaabcaaGreatEvA
import Derived.Laws.Sem
import Derived.Laws.Entries
import Derived.Laws.Strings
import Derived.Laws.StructEq
import Derived.Laws.Build
namespace Go.Proofs.YtgcdpdkccaabcaaGreat.Ev
open Go
set_option linter.unusedVariables false
set_option linter.unusedSimpArgs false
set_option linter.unusedSectionVars false

/-! ### constants and operands -/
def absLeaf : Value → AV
  | .bool b => .bool b
  | .int k n => .int k n
  | .string s => .str s
  | .pointer none => .nilp
  | .slice none n c => if n = 0 ∧ c = 0 then .nils else .any
  | .map none => .nilm
  | .func (.func f) a b => if a.size = 0 ∧ b.size = 0 then .fn f [] [] else .any
  | .nilFunc => .nilf
  | .nilIface => .nili
  | _ => .any
def absV : Value → AV
  | .agg cs => .agg (cs.toList.map absLeaf)
  | .tuple vs => .tup (vs.toList.map absLeaf)
  | .iface t v => .iface t (absLeaf v)
  | v => absLeaf v
theorem absLeaf_rel (L : LC) (v : Value) : RV L (absLeaf v) v := by
  unfold absLeaf
  split <;> try (simp [RV]; done)
  · split
    · rename_i h; obtain ⟨rfl, rfl⟩ := h; simp [RV]
    · simp [RV]
  · rename_i f a b
    split
    · rename_i h
      obtain ⟨ha, hb⟩ := h
      have ha' : a = #[] := Array.eq_empty_of_size_eq_zero ha
      have hb' : b = #[] := Array.eq_empty_of_size_eq_zero hb
      subst ha'; subst hb'
      exact ⟨_, _, rfl, by simp [RVs], by simp [RVs]⟩
    · simp [RV]
theorem absLeafs_rel (L : LC) (vs : List Value) : RVs L (vs.map absLeaf) vs := by
  have := RVs.map (L := L) (f := absLeaf) (g := fun v => v) vs (fun v _ => absLeaf_rel L v)
  simpa using this
theorem absV_rel (L : LC) (v : Value) : RV L (absV v) v := by
  unfold absV
  split
  · exact ⟨_, rfl, absLeafs_rel L _⟩
  · exact ⟨_, rfl, absLeafs_rel L _⟩
  · exact ⟨_, rfl, absLeaf_rel L _⟩
  · exact absLeaf_rel L _

def evalA (env : List AV) : Operand → AV
  | .tmp t => env.getD t (.tup [])
  | .const v => absV v
  | .global _ => .any
  | .func f => .fn f [] []
theorem evalA_rel {L : LC} {env : List AV} {a : Act} (h : RVs L env a.tmps.toList) (x : Operand) : RV L (evalA env x) (a.eval x) := by
  cases x with
  | tmp t =>
    simp only [evalA, Act.eval]
    rcases Nat.lt_or_ge t env.length with k | k
    · have k' : t < a.tmps.toList.length := by rw [← h.length]; exact k
      rw [List.getD_eq_getElem?_getD, List.getElem?_eq_getElem k, Option.getD_some]
      have k2 : t < a.tmps.size := by simpa using k'
      simp only [Array.getD, k2, dif_pos]
      exact h.get (List.getElem?_eq_getElem k) (by simp [k2])
    · have k' : ¬ t < a.tmps.size := by
        have e : env.length = a.tmps.size := by rw [h.length, Array.length_toList]
        rw [e] at k
        exact Nat.not_lt.2 k
      rw [List.getD_eq_getElem?_getD, List.getElem?_eq_none k, Option.getD_none]
      simp only [Array.getD, k', dif_neg, not_false_eq_true]
      exact ⟨#[], rfl, by simp [RVs]⟩
  | const v => exact absV_rel L v
  | global g => simp [evalA, RV]
  | func f => exact ⟨_, _, rfl, by simp [RVs], by simp [RVs]⟩

/-! ### cells of a value -/
def cellsA : AV → Option (List AV)
  | .agg cs => some cs
  | .any => none
  | .tup _ => none
  | v => some [v]
theorem cellsA_rel {L : LC} {x : AV} {cs : List AV} {v : Value} (h : cellsA x = some cs) (hv : RV L x v) : RVs L cs v.cells.toList := by
  have one : ∀ y : AV, cs = [y] → y = x → (∀ vs, v ≠ .agg vs) → RVs L cs v.cells.toList := by
    intro y e1 e2 hn
    subst e1; subst e2
    have : v.cells = #[v] := by
      cases v <;> first | rfl | (exact absurd rfl (hn _))
    rw [this]
    exact .cons hv .nil
  cases x <;> simp only [cellsA, Option.some.injEq] at h <;> try (cases h; done)
  case agg c =>
    subst h
    obtain ⟨vs, rfl, k⟩ := hv
    exact k
  all_goals
    refine one _ h.symm rfl ?_
    intro vs e
    subst e
    simp [RV] at hv
/-- A cell that may be stored: one value. -/
def leafA : AV → Bool
  | .any | .agg _ | .tup _ => false
  | _ => true
theorem leafA_rel {L : LC} {x : AV} {v : Value} (h : leafA x = true) (hv : RV L x v) : v.oneCell' = true := by
  cases x <;> simp only [leafA, Bool.false_eq_true] at h <;> simp only [RV] at hv
  all_goals first
    | (subst hv; rfl)
    | (obtain ⟨_, _, rfl⟩ := hv; rfl)
    | (obtain ⟨_, _, rfl, _⟩ := hv; rfl)
    | (obtain ⟨_, _, _, _, rfl, _⟩ := hv; rfl)
    | (obtain ⟨_, _, _, rfl, _⟩ := hv; rfl)
    | (obtain ⟨_, rfl, _⟩ := hv; rfl)

/-- Cells laid one behind the other. -/
def setAll {α : Type} (xs : List α) (off : Nat) : List α → List α
  | [] => xs
  | c :: cs => setAll (xs.set off c) (off + 1) cs
theorem setAll_length {α : Type} (cs : List α) : ∀ (xs : List α) (off : Nat), (setAll xs off cs).length = xs.length := by
  induction cs with
  | nil => intro xs off; rfl
  | cons c cs ih => intro xs off; simp [setAll, ih]
theorem RVs.setAll {L : LC} {cs : List AV} {ds : List Value} (k : RVs L cs ds) : ∀ {xs : List AV} {vs : List Value} (off : Nat), RVs L xs vs → RVs L (Ev.setAll xs off cs) (Ev.setAll vs off ds) := by
  induction cs generalizing ds with
  | nil => cases ds with
    | nil => intro _ _ _ h; exact h
    | cons _ _ => simp [RVs] at k
  | cons c cs ih => cases ds with
    | nil => simp [RVs] at k
    | cons d ds =>
      simp only [RVs] at k
      intro xs vs off h
      exact ih k.2 (off + 1) (h.set off k.1)

/-! ### types -/
def isAggB (P : Program) (t : TypeId) : Bool := match P.underlying t with | some (.struct _) | some (.array _ _) => true | _ => false
def szA (P : Program) (t : TypeId) : Option Nat := (P.info? t).map (·.size)
section
variable {P : Program} (w : World)
theorem run_typeInfo' {t : TypeId} {i : TypeInfo} (h : P.info? t = some i) : (typeInfo t).run P w = .ok i w := by simp [typeInfo, h]
theorem run_sizeOf' {t : TypeId} {n : Nat} (h : szA P t = some n) : (sizeOf t).run P w = .ok n w := by
  unfold szA at h
  obtain ⟨i, hi, rfl⟩ := Option.map_eq_some_iff.1 h
  simp [sizeOf, run_typeInfo' w hi]
theorem run_isAgg' {t : TypeId} {d : TypeDesc} (h : P.underlying t = some d) : (isAgg t).run P w = .ok (isAggB P t) w := by
  simp only [isAgg, Sem.run_bind, run_underlying h, Result.andThen_ok, isAggB, h]
  cases d <;> simp
end

/-- A part of an aggregate. -/
def partA (P : Program) (t : TypeId) (cs : List AV) (off : Nat) : Option AV :=
  match P.underlying t with
  | none => none
  | some _ =>
    if isAggB P t then match szA P t with | some n => some (.agg ((cs.drop off).take n)) | none => none
    else cs[off]?
theorem partA_run {P : Program} {L : LC} {t : TypeId} {cs : List AV} {vs : Array Value} {off : Nat} {x : AV} (h : partA P t cs off = some x) (hv : RVs L cs vs.toList) (w : World) :
    ∃ v, (part t vs off).run P w = .ok v w ∧ RV L x v := by
  unfold partA at h
  cases hu : P.underlying t with
  | none => rw [hu] at h; cases h
  | some d =>
    rw [hu] at h
    simp only at h
    by_cases ha : isAggB P t = true
    · rw [if_pos ha] at h
      cases hn : szA P t with
      | none => rw [hn] at h; cases h
      | some n =>
        rw [hn] at h
        simp only [Option.some.injEq] at h
        subst h
        refine ⟨.agg (vs.extract off (off + n)), by simp [part, run_isAgg' w hu, ha, run_sizeOf' w hn], ?_⟩
        refine ⟨_, rfl, ?_⟩
        have : (vs.extract off (off + n)).toList = (vs.toList.drop off).take n := by simp [Array.toList_extract, List.extract_eq_take_drop, Nat.add_sub_cancel_left]
        rw [this]
        exact (hv.drop off).take n
    · rw [if_neg ha] at h
      obtain ⟨v, h1, h2⟩ := hv.get_some h
      have h1' : vs[off]? = some v := by simpa using h1
      exact ⟨v, by simp [part, run_isAgg' w hu, ha, h1'], h2⟩

/-! ### building a struct, an array -/
def fillA (place : Nat → Option (Nat × Nat)) (cells : List AV) : List (Nat × AV) → Option (List AV)
  | [] => some cells
  | (i, v) :: rest =>
    match place i, cellsA v with
    | some (off, size), some cs => if cs.length ≠ size ∨ off + cs.length > cells.length then none else fillA place (setAll cells off cs) rest
    | _, _ => none
def placesA (P : Program) : List Field → Option (List (Nat × Nat))
  | [] => some []
  | f :: fs => match szA P f.type, placesA P fs with
    | some n, some r => some ((f.offset, n) :: r)
    | _, _ => none
def zeroA (P : Program) (t : TypeId) : Option (List AV) := ((P.info? t).bind (·.zero)).map fun z => z.cells.toList.map absLeaf
def buildA (P : Program) (t : TypeId) (parts : List (Nat × AV)) : Option AV :=
  match zeroA P t, P.underlying t with
  | some z, some (.struct fields) => match placesA P fields.toList with
    | some pl => (fillA (fun i => pl[i]?) z parts).map .agg
    | none => none
  | some z, some (.array _ e) => match szA P e with
    | some size => (fillA (fun i => some (i * size, size)) z parts).map .agg
    | none => none
  | _, _ => none

theorem foldl_zipIdx_set (cs : List Value) : ∀ (k off : Nat) (acc : Array Value), ((cs.zipIdx k).foldl (fun acc (x : Value × Nat) => acc.setIfInBounds (off + x.2) x.1) acc).toList = setAll acc.toList (off + k) cs := by
  induction cs with
  | nil => intro k off acc; rfl
  | cons c cs ih =>
    intro k off acc
    rw [List.zipIdx_cons, List.foldl_cons, ih]
    simp [setAll, Nat.add_assoc]
theorem fillA_run {L : LC} {place : Nat → Option (Nat × Nat)} {parts : List (Nat × AV)} : ∀ {cells : List AV} {vs : Array Value} {rs : List AV} {vparts : List (Nat × Value)}, fillA place cells parts = some rs → RVs L cells vs.toList →
    vparts.map (·.1) = parts.map (·.1) → RVs L (parts.map (·.2)) (vparts.map (·.2)) → ∃ us, Instr.fill place vs vparts = some us ∧ RVs L rs us.toList := by
  induction parts with
  | nil =>
    intro cells vs rs vparts h hv h1 h2
    cases vparts with
    | nil => simp only [fillA, Option.some.injEq] at h; subst h; exact ⟨vs, rfl, hv⟩
    | cons _ _ => simp at h1
  | cons p parts ih =>
    intro cells vs rs vparts h hv h1 h2
    cases vparts with
    | nil => simp at h1
    | cons q vparts =>
      obtain ⟨i, x⟩ := p
      obtain ⟨j, v⟩ := q
      simp only [List.map_cons, List.cons.injEq] at h1
      obtain ⟨rfl, h1⟩ := h1
      simp only [List.map_cons, RVs] at h2
      simp only [fillA] at h
      cases hp : place j with
      | none => simp [hp] at h
      | some os =>
        obtain ⟨off, size⟩ := os
        cases hc : cellsA x with
        | none => simp [hp, hc] at h
        | some cs =>
          simp only [hp, hc] at h
          by_cases hb : cs.length ≠ size ∨ off + cs.length > cells.length
          · rw [if_pos hb] at h; cases h
          · rw [if_neg hb] at h
            have hb' : cs.length = size ∧ off + cs.length ≤ cells.length := by
              constructor
              · exact Decidable.byContradiction fun q => hb (.inl q)
              · exact Nat.le_of_not_lt fun q => hb (.inr q)
            have hr := cellsA_rel hc h2.1
            have hl := hr.length
            have hl2 := hv.length
            simp only [Array.length_toList] at hl hl2
            have hfold := foldl_zipIdx_set v.cells.toList 0 off vs
            have hz : (v.cells.zipIdx.foldl (fun cs (x : Value × Nat) => cs.setIfInBounds (off + x.2) x.1) vs).toList = setAll vs.toList off v.cells.toList := by
              rw [← Array.foldl_toList, Array.toList_zipIdx]
              simpa using hfold
            obtain ⟨us, hu, hr2⟩ := ih (vs := v.cells.zipIdx.foldl (fun cs (x : Value × Nat) => cs.setIfInBounds (off + x.2) x.1) vs) h (by rw [hz]; exact hr.setAll off hv) h1 h2.2
            refine ⟨us, ?_, hr2⟩
            simp only [Instr.fill, hp]
            have hn : ¬ ((decide (v.cells.size ≠ size) || decide (off + v.cells.size > vs.size)) = true) := by
              rw [← hl, ← hl2]
              simpa using hb'
            rw [if_neg hn]
            exact hu
theorem placesA_run {P : Program} (w : World) : ∀ {fs : List Field} {pl : List (Nat × Nat)}, placesA P fs = some pl →
    (fs.mapM fun f => do pure (f.offset, ← sizeOf f.type) : Sem (List (Nat × Nat))).run P w = .ok pl w := by
  intro fs
  induction fs with
  | nil => intro pl h; simp only [placesA, Option.some.injEq] at h; subst h; simp
  | cons f fs ih =>
    intro pl h
    simp only [placesA] at h
    cases hn : szA P f.type with
    | none => simp [hn] at h
    | some n =>
      cases hp : placesA P fs with
      | none => simp [hn, hp] at h
      | some r =>
        simp only [hn, hp, Option.some.injEq] at h
        subst h
        simp only [List.mapM_cons, Sem.run_bind, run_sizeOf' w hn, Result.andThen_ok, Sem.run_pure, ih hp]
theorem zeroA_run {P : Program} {t : TypeId} {z : List AV} (h : zeroA P t = some z) (w : World) (L : LC) : ∃ v, (zeroValue t).run P w = .ok v w ∧ RVs L z v.cells.toList := by
  unfold zeroA at h
  obtain ⟨v, hv, rfl⟩ := Option.map_eq_some_iff.1 h
  obtain ⟨i, hi, hz⟩ := Option.bind_eq_some_iff.1 hv
  exact ⟨v, by simp [zeroValue, run_typeInfo' w hi, hz], absLeafs_rel L _⟩
theorem buildA_run {P : Program} {L : LC} {t : TypeId} {parts : List (Nat × AV)} {x : AV} {vparts : Array (Nat × Value)} (h : buildA P t parts = some x)
    (h1 : vparts.toList.map (·.1) = parts.map (·.1)) (h2 : RVs L (parts.map (·.2)) (vparts.toList.map (·.2))) (w : World) :
    ∃ v, (Instr.build t vparts).run P w = .ok v w ∧ RV L x v := by
  unfold buildA at h
  cases hz : zeroA P t with
  | none => simp [hz] at h
  | some z =>
    obtain ⟨zv, hzr, hzc⟩ := zeroA_run hz w L
    cases hu : P.underlying t with
    | none => simp [hz, hu] at h
    | some d =>
      cases d <;> simp only [hz, hu, reduceCtorEq] at h
      case struct fields =>
        cases hp : placesA P fields.toList with
        | none => simp [hp] at h
        | some pl =>
          simp only [hp] at h
          obtain ⟨rs, hf, rfl⟩ := Option.map_eq_some_iff.1 h
          obtain ⟨us, hfill, hr⟩ := fillA_run (vs := zv.cells) hf hzc h1 h2
          refine ⟨.agg us, ?_, ⟨_, rfl, hr⟩⟩
          have hpl := placesA_run w hp
          have hpl2 : (fields.mapM fun f => do pure (f.offset, ← sizeOf f.type) : Sem (Array (Nat × Nat))).run P w = .ok pl.toArray w := by
            rw [Array.mapM_eq_mapM_toList, Sem.run_map, hpl]
            rfl
          simp only [Instr.build, Sem.run_bind, hzr, Result.andThen_ok, run_underlying hu, hpl2]
          have : (fun i : Nat => pl.toArray[i]?) = fun i : Nat => pl[i]? := by funext i; simp
          rw [this, hfill]
          simp
      case array n e =>
        cases hp : szA P e with
        | none => simp [hp] at h
        | some size =>
          simp only [hp] at h
          obtain ⟨rs, hf, rfl⟩ := Option.map_eq_some_iff.1 h
          obtain ⟨us, hfill, hr⟩ := fillA_run (vs := zv.cells) hf hzc h1 h2
          refine ⟨.agg us, ?_, ⟨_, rfl, hr⟩⟩
          simp only [Instr.build, Sem.run_bind, hzr, Result.andThen_ok, run_underlying hu, run_sizeOf' w hp, hfill]
          simp
end Go.Proofs.YtgcdpdkccaabcaaGreat.Ev
