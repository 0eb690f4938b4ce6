/- Rules for walks that a program prints. Conditions: none (definitions and lemmas). -/
import Derived.Test.YtgcdpdkccaabcaaGreatEvV
namespace Go.Proofs.YtgcdpdkccaabcaaGreat.Ev
open Go
set_option linter.unusedVariables false
set_option linter.unusedSimpArgs false
set_option linter.unusedSectionVars false
/-- Both arms come to one state. -/
theorem CodeB.join {P : Program} {h0 : Heap} {c d : Code} {s : St} {R : Ex → St → Prop} (S' : St) (h : CodeB P h0 c s fun x s' => x = .normal ∧ s' = S') (k : CodeB P h0 d S' R) : CodeB P h0 (.seq c d) s R :=
  .seq (h.mono fun x s' => by rintro ⟨rfl, rfl⟩; exact k)
/-- Both arms come to one set of states. -/
theorem CodeB.joinP {P : Program} {h0 : Heap} {c d : Code} {s : St} {R : Ex → St → Prop} (S' : St → Prop) (h : CodeB P h0 c s fun x s' => match x with | .normal => S' s' | x => R x s') (k : ∀ s', S' s' → CodeB P h0 d s' R) : CodeB P h0 (.seq c d) s R :=
  .seq (h.mono fun x s' hx => by
    cases x with
    | normal => exact k s' hx
    | exit i => exact hx
    | ret => exact hx)
theorem rvs_forget {L : LC} {xs : List AV} {vs : List Value} {t : Nat} {x : AV} (hany : xs[t]? = some .any) (h : RVs L (xs.set t x) vs) : RVs L xs vs := by
  have hl := h.length
  rw [List.length_set] at hl
  refine RVs.of_get hl fun i y v hy hv => ?_
  by_cases hi : i = t
  · subst hi
    rw [hany] at hy
    cases hy
    simp [RV]
  · exact h.get (by rw [List.getElem?_set_ne (Ne.symm hi)]; exact hy) hv
/-- A tmp is told no more. -/
theorem CodeB.forget {P : Program} {h0 : Heap} {c : Code} {R : Ex → St → Prop} {k t : Nat} {x : AV} {l : List (Nat × AV)} {h : Heap} {lw : Nat} (hany : (sp k l)[t]? = some .any) (hc : CodeB P h0 c ⟨sp k l, h, lw⟩ R) : CodeB P h0 c ⟨sp k ((t, x) :: l), h, lw⟩ R :=
  fun L0 w0 L a w Q h1 h2 hQ => hc L0 w0 L a w Q h1 ⟨h2.steps, h2.kept, h2.low, rvs_forget hany h2.env⟩ hQ
/-- Tmps are told no more. -/
theorem rvs_less {L : LC} {xs ys : List AV} {vs : List Value} (hl : xs.length = ys.length) (h : ∀ i : Nat, ys[i]? = xs[i]? ∨ ys[i]? = some .any) (k : RVs L xs vs) : RVs L ys vs := by
  refine RVs.of_get (by rw [← hl]; exact k.length) fun i y v hy hv => ?_
  rcases h i with e | e
  · exact k.get (by rw [← e]; exact hy) hv
  · rw [e] at hy; cases hy; simp [RV]
theorem sp_len {k : Nat} : ∀ {l : List (Nat × AV)}, (sp k l).length = k
  | [] => by simp [sp]
  | p :: l => by
    show ((sp k l).set p.1 p.2).length = k
    rw [List.length_set]; exact sp_len
theorem sp_any {k : Nat} : ∀ {l : List (Nat × AV)} {i : Nat}, i < k → i ∉ l.map (·.1) → (sp k l)[i]? = some .any
  | [], i, hi, _ => by simp [sp, hi]
  | p :: l, i, hi, hn => by
    show ((sp k l).set p.1 p.2)[i]? = _
    simp only [List.map_cons, List.mem_cons, not_or] at hn
    rw [List.getElem?_set_ne (Ne.symm hn.1)]
    exact sp_any hi hn.2
theorem sp_get {k : Nat} : ∀ {l : List (Nat × AV)} {i : Nat}, i < k → (sp k l)[i]? = some ((l.lookup i).getD .any)
  | [], i, hi => by simp [sp, hi]
  | p :: l, i, hi => by
    show ((sp k l).set p.1 p.2)[i]? = _
    rw [List.lookup_cons]
    by_cases h : i = p.1
    · subst h
      simp [sp_len, hi]
    · rw [List.getElem?_set_ne (Ne.symm h), sp_get hi]
      have : (i == p.1) = false := by simpa using h
      rw [this]
/-- Of the told tmps some are kept. -/
theorem CodeB.only {P : Program} {h0 : Heap} {c : Code} {R : Ex → St → Prop} {k : Nat} (l' : List Nat) {l : List (Nat × AV)} {h : Heap} {lw : Nat} (hc : CodeB P h0 c ⟨sp k (l.filter fun p => l'.contains p.1), h, lw⟩ R) : CodeB P h0 c ⟨sp k l, h, lw⟩ R :=
  fun L0 w0 L a w Q h1 h2 hQ => hc L0 w0 L a w Q h1 ⟨h2.steps, h2.kept, h2.low, rvs_less (xs := sp k l) (by rw [sp_len, sp_len]) (fun i => by
    rcases Nat.lt_or_ge i k with hi | hi
    · rw [sp_get hi, sp_get hi]
      by_cases hm : l'.contains i
      · left
        congr 2
        clear hc h2 hQ
        induction l with
        | nil => rfl
        | cons p l ih =>
          by_cases he : i = p.1
          · subst he
            rw [List.filter_cons_of_pos (p := fun p : Nat × AV => l'.contains p.1) hm]
            rw [List.lookup_cons, List.lookup_cons]; simp
          · have : (i == p.1) = false := by simpa using he
            rw [List.lookup_cons, this]
            by_cases hp : l'.contains p.1
            · rw [List.filter_cons_of_pos (p := fun p : Nat × AV => l'.contains p.1) hp, List.lookup_cons, this]; exact ih
            · rw [List.filter_cons_of_neg (p := fun p : Nat × AV => l'.contains p.1) hp]; exact ih
      · right
        congr 1
        have : (l.filter fun p => l'.contains p.1).lookup i = none := by
          clear hc h2 hQ
          induction l with
          | nil => rfl
          | cons p l ih =>
            by_cases hp : l'.contains p.1
            · rw [List.filter_cons_of_pos (p := fun p : Nat × AV => l'.contains p.1) hp, List.lookup_cons]
              have : (i == p.1) = false := by
                have : i ≠ p.1 := fun e => hm (e ▸ hp)
                simpa using this
              rw [this]; exact ih
            · rw [List.filter_cons_of_neg (p := fun p : Nat × AV => l'.contains p.1) hp]; exact ih
        rw [this]; rfl
    · left; rw [List.getElem?_eq_none (by rw [sp_len]; exact hi), List.getElem?_eq_none (by rw [sp_len]; exact hi)]) h2.env⟩ hQ
/-- A block: what its exits owe, without an 'if'. -/
theorem CodeB.blk {P : Program} {h0 : Heap} {id : Nat} {c : Code} {s : St} {R : Ex → St → Prop} (h : CodeB P h0 c s fun x s' => match x with | .exit i => (i = id → R .normal s') ∧ (i ≠ id → R (.exit i) s') | x => R x s') : CodeB P h0 (.block id c) s R :=
  .block (h.mono fun x s' hx => by
    cases x with
    | normal => exact hx
    | ret => exact hx
    | exit i =>
      show if i = id then R .normal s' else R (.exit i) s'
      by_cases hi : i = id
      · rw [if_pos hi]; exact hx.1 hi
      · rw [if_neg hi]; exact hx.2 hi)
/-- A loop whose rounds end in a state that is made plain. -/
theorem CodeB.loopG {P : Program} {h0 : Heap} {c : Code} (I : Nat → St → Prop) (m : Nat) {s : St} {R : Ex → St → Prop} (hs : ∃ s2, Pln h0 s s2 ∧ I m s2) (round : ∀ m s, I m s → CodeB P h0 c s fun x s' => match x with | .normal => ∃ s2, Pln h0 s' s2 ∧ ∃ m', m' < m ∧ I m' s2 | x => R x s') : CodeB P h0 (.loop c) s R := by
  refine .loop (fun m s => ∃ s2, Pln h0 s s2 ∧ I m s2) m hs fun m s hI => ?_
  obtain ⟨s2, hp, hi⟩ := hI
  refine .pln hp ((round m s2 hi).mono fun x s' hx => ?_)
  cases x with
  | normal =>
    obtain ⟨s3, hp, m', hm, h⟩ := hx
    exact ⟨m', hm, s3, hp, h⟩
  | exit i => exact hx
  | ret => exact hx
/-- Data that lies in no block. -/
theorem Pln.of' (σ : List Nat) {k : Nat} {T : List (Nat × AV)} {h : Heap} {lw : Nat} {l : List (Nat × AV)} {K : Heap} (hσ : σ.Nodup) (hkept : KeptOk h σ σ K) (hl : LiveOk h 0 σ (sp k T) l) : Pln [] ⟨sp k T, h, lw⟩ ⟨sp k l, K, lw⟩ :=
  Pln.of σ sp_len rfl hσ hkept hl
/-- What stays is told by the tmps told. -/
def LiveT (h : Heap) (T : List (Nat × AV)) (σ : List Nat) : List (Nat × AV) → Prop
  | [] => True
  | p :: l => (∃ x, T.lookup p.1 = some x ∧ Frz h 0 σ x p.2) ∧ LiveT h T σ l
theorem liveT_ok {h : Heap} {T : List (Nat × AV)} {σ : List Nat} {k : Nat} : ∀ {l : List (Nat × AV)}, ((l.map (·.1)).all fun t => decide (t < k)) = true → LiveT h T σ l → LiveOk h 0 σ (sp k T) l
  | [], _, _ => trivial
  | p :: l, hb, ⟨⟨x, hx, hf⟩, hl⟩ => by
    simp only [List.map_cons, List.all_cons, Bool.and_eq_true, decide_eq_true_eq] at hb
    exact ⟨⟨x, by rw [sp_get hb.1, hx]; rfl, hf⟩, liveT_ok hb.2 hl⟩
theorem Pln.ofT (σ : List Nat) {k : Nat} {T : List (Nat × AV)} {h : Heap} {lw : Nat} {l : List (Nat × AV)} {K : Heap} (hσ : σ.Nodup) (hb : ((l.map (·.1)).all fun t => decide (t < k)) = true) (hkept : KeptOk h σ σ K) (hl : LiveT h T σ l) : Pln [] ⟨sp k T, h, lw⟩ ⟨sp k l, K, lw⟩ :=
  Pln.of σ sp_len rfl hσ hkept (liveT_ok hb hl)
/-! ### hints -/
abbrev iN (n : Nat) : AV := .int .i64 (n : Int)
section
variable {P : Program} {E : Eqs} {t : TypeId} {k : IntKind}
theorem cmpLss {i j : Nat} {b : Bool} (h : decide (i < j) = b) : binA P E .lss t (.int k i) (.int k j) = some (.bool b) := by
  simp only [binA, intBin, if_true]
  subst h
  exact congrArg (fun x => some (AV.bool x)) (decide_eq_decide.2 (by omega))
theorem cmpLeq {i j : Nat} {b : Bool} (h : decide (i ≤ j) = b) : binA P E .leq t (.int k i) (.int k j) = some (.bool b) := by
  simp only [binA, intBin, if_true]
  subst h
  exact congrArg (fun x => some (AV.bool x)) (decide_eq_decide.2 (by omega))
theorem cmpGtr {i j : Nat} {b : Bool} (h : decide (i > j) = b) : binA P E .gtr t (.int k i) (.int k j) = some (.bool b) := by
  simp only [binA, intBin, if_true]
  subst h
  exact congrArg (fun x => some (AV.bool x)) (decide_eq_decide.2 (by omega))
theorem cmpGeq {i j : Nat} {b : Bool} (h : decide (i ≥ j) = b) : binA P E .geq t (.int k i) (.int k j) = some (.bool b) := by
  simp only [binA, intBin, if_true]
  subst h
  exact congrArg (fun x => some (AV.bool x)) (decide_eq_decide.2 (by omega))
theorem cmpEql {i j : Nat} {b : Bool} (h : decide (i = j) = b) : binA P E .eql t (.int k i) (.int k j) = some (.bool b) := by
  simp only [binA, intBin, if_true]
  subst h
  refine congrArg (fun x => some (AV.bool x)) ?_
  rw [Bool.eq_iff_iff, beq_iff_eq, decide_eq_true_eq]
  omega
theorem cmpNeq {i j : Nat} {b : Bool} (h : decide (i ≠ j) = b) : binA P E .neq t (.int k i) (.int k j) = some (.bool b) := by
  simp only [binA, intBin, if_true]
  subst h
  refine congrArg (fun x => some (AV.bool x)) ?_
  rw [Bool.eq_iff_iff, bne_iff_ne, decide_eq_true_eq]
  omega
theorem icLss {i j : Int} {b : Bool} (h : decide (i < j) = b) : binA P E .lss t (.int k i) (.int k j) = some (.bool b) := by
  subst h; simp only [binA, intBin, if_true]
theorem icLeq {i j : Int} {b : Bool} (h : decide (i ≤ j) = b) : binA P E .leq t (.int k i) (.int k j) = some (.bool b) := by
  subst h; simp only [binA, intBin, if_true]
theorem icGtr {i j : Int} {b : Bool} (h : decide (i > j) = b) : binA P E .gtr t (.int k i) (.int k j) = some (.bool b) := by
  subst h; simp only [binA, intBin, if_true]
theorem icGeq {i j : Int} {b : Bool} (h : decide (i ≥ j) = b) : binA P E .geq t (.int k i) (.int k j) = some (.bool b) := by
  subst h; simp only [binA, intBin, if_true]
theorem icEql {i j : Int} {b : Bool} (h : (i == j) = b) : binA P E .eql t (.int k i) (.int k j) = some (.bool b) := by
  subst h; simp only [binA, intBin, if_true]
theorem icNeq {i j : Int} {b : Bool} (h : (i != j) = b) : binA P E .neq t (.int k i) (.int k j) = some (.bool b) := by
  subst h; simp only [binA, intBin, if_true]
theorem strEql {a c : ByteArray} {b : Bool} (h : strEq a c = b) : binA P E .eql t (.str a) (.str c) = some (.bool b) := by
  subst h; simp only [binA, strBin]
theorem strNeq {a c : ByteArray} {b : Bool} (h : strEq a c = b) : binA P E .neq t (.str a) (.str c) = some (.bool (!b)) := by
  subst h; simp only [binA, strBin]
end
/-- An index into data that may be nil. -/
def hIdxE {α : Type} (n : Nat) (enc : α → List AV) (o : Option (List α)) (i : Nat) (a : α) : Hint := { vals := [encS enc o, iN i], len := n, v := .vp (enc a ++ encL enc ((ls o).drop (i + 1))) }
theorem good_idxE {P : Program} {E : Eqs} {Φ : Orc} {t e : TypeId} {k : Nat} (hu : P.underlying t = some (.slice e)) (hs : szA P e = some k) {n : Nat} {x y : Operand} {α : Type} {enc : α → List AV} (hk : EncK enc k) {o : Option (List α)} {i : Nat} {a : α} (ha : (ls o)[i]? = some a) :
    Hint.Good P E Φ (hIdxE n enc o i a) (.indexAddr t x y) := by
  cases o with
  | none => simp [ls] at ha
  | some l => exact good_idx_enc (n := n) (cap := none) hu hs hk ha
/-- The length of a slice that grows. -/
def hLenV (n k id size : Nat) : Hint := { vals := [slV k id size], len := n, v := iN k }
theorem good_lenV {P : Program} {E : Eqs} {Φ : Orc} {n k id size : Nat} {x : Operand} {t e : TypeId} (hu : P.underlying t = some (.slice e)) : Hint.Good P E Φ (hLenV n k id size) (.call ⟨.builtin .len, #[x], #[t]⟩) := by
  intro env h lw hv _ _ _
  have hop : (Op.call ⟨.builtin .len, #[x], #[t]⟩).operands.toList = [x] := rfl
  rw [hop] at hv
  simp only [hLenV, List.map_cons, List.map_nil, List.cons.injEq, and_true] at hv
  cases k <;> simp only [slV] at hv <;> simp [stepOp, isBuiltin, dirOp, isAppend, builtinA, hv, hLenV, lowOf, Eff.none, lenA, hu]
theorem leaf_encS {α : Type} {enc : α → List AV} (o : Option (List α)) : leafA (encS enc o) = true := by cases o <;> rfl
theorem cellsA_encS {α : Type} {enc : α → List AV} (o : Option (List α)) : cellsA (encS enc o) = some [encS enc o] := by cases o <;> rfl
/-- Data that may be nil is written. -/
def hStE {α : Type} (n id : Nat) (cs : List AV) (e : TypeId) (off : Nat) (enc : α → List AV) (o : Option (List α)) (cs' : List AV) : Hint :=
  { vals := [.ptr id off, encS enc o], look := [(id, .cells cs e)], len := n, v := .tup [], upd := fun h => h.set id (.cells cs' e), lw := fun lw => lowOf lw ⟨[], [id]⟩, eff := ⟨⟨[], [id]⟩, false, none⟩ }
theorem good_stE {P : Program} {E : Eqs} {Φ : Orc} {t : TypeId} (hs : szA P t = some 1) {n id off : Nat} {cs cs' : List AV} {e : TypeId} {x y : Operand} {α : Type} {enc : α → List AV} {o : Option (List α)} (hle : off + 1 ≤ cs.length) (hcs : cs.set off (encS enc o) = cs') :
    Hint.Good P E Φ (hStE n id cs e off enc o cs') (.store t x y) := by
  intro env h lw hv hlk _ _
  have hop : (Op.store t x y).operands.toList = [x, y] := rfl
  rw [hop] at hv
  simp only [hStE, List.map_cons, List.map_nil, List.cons.injEq, and_true] at hv
  have hc : h[id]? = some (.cells cs e) := map_look (f := fun t => h[t]?) hlk (id, .cells cs e) List.mem_cons_self
  simp only [stepOp, dirOp, hv.1, hv.2, storeA, cellsA_encS, hs, hc, if_pos (show [encS enc o].length = 1 ∧ off + 1 ≤ cs.length ∧ [encS enc o].all leafA = true from ⟨rfl, hle, by simp [leaf_encS]⟩), Option.map_some, setAll, hcs, hStE]
/-- A record is built. -/
def hBd (n : Nat) (vs : List AV) (v : AV) : Hint := { vals := vs, len := n, v := v }
theorem good_bd {P : Program} {E : Eqs} {Φ : Orc} {t : TypeId} {n : Nat} {vs : List AV} {v : AV} {parts : Array (Nat × Operand)} (hh : buildA P t ((parts.toList.map (·.1)).zip vs) = some v) : Hint.Good P E Φ (hBd n vs v) (.build t parts) := by
  intro env h lw hv _ _ _
  have hop : (Op.build t parts).operands.toList = parts.toList.map (·.2) := by simp [Op.operands]
  rw [hop] at hv
  simp only [hBd, List.map_map] at hv
  have : (parts.toList.map fun q => (q.1, evalA env q.2)) = (parts.toList.map (·.1)).zip vs := by
    rw [← hv]
    generalize parts.toList = l
    induction l with
    | nil => rfl
    | cons a l ih => simp [ih]
  simp only [stepOp, dirOp, pureOp, this, hh, Option.map_some, hBd]
  rfl
/-- append of one record to a slice that grows. -/
def hAppW (N n j size : Nat) (cs : List AV) (e : TypeId) (b : AV) (src : List AV) (rd : List Nat) (more : List (Nat × Blk)) : Hint :=
  { vals := [slV n j size, b], look := (j, blkV n cs e) :: more, len := N, v := .sl N 0 (n + 1) (n + 1) false size, upd := fun h => h.set j .dead ++ [.cells (cs ++ src) e],
    lw := fun lw => match n with | 0 => lowOf lw ⟨rd, []⟩ | _ + 1 => lowOf lw ⟨rd, [j]⟩, eff := match n with | 0 => ⟨⟨rd, []⟩, false, none⟩ | _ + 1 => ⟨⟨rd, [j]⟩, false, none⟩ }
theorem good_appW {P : Program} {E : Eqs} {Φ : Orc} {st e : TypeId} {size bytes : Nat} (T : SlT P st e size bytes) {N n j : Nat} {cs : List AV} {b : AV} {src : List AV} {rd : List Nat} {more : List (Nat × Blk)} {c : Call} {s o : Operand}
    (hb : isBuiltin c = true) (ha : isAppend c = true) (h1 : c.args.toList = [s, o]) (h2 : c.argTypes.toList = [st, st]) (hop : (Op.call c).operands.toList = [s, o])
    (hsrc : ∀ h : Heap, (∀ p ∈ more, h[p.1]? = some p.2) → srcA h size b = some (src, 1, rd)) (hl : cs.length = n * size) (hleaf : src.all leafA = true) (hroom : (n + 1) * bytes ≤ 140737488355328) :
    Hint.Good P E Φ (hAppW N n j size cs e b src rd more) (.call c) := by
  cases n with
  | zero =>
    intro env h lw hv hlk hn _
    have hcs : cs = [] := List.length_eq_zero_iff.1 (by rw [hl]; simp)
    have hlk' := map_look (f := fun t => h[t]?) hlk
    have hj : h[j]? = some .dead := hlk' (j, blkV 0 cs e) List.mem_cons_self
    have := good_appNil (n := N) (P := P) (E := E) (Φ := Φ) (k := 1) T hb ha h1 h2 hop hsrc (by decide) (by simpa using hroom) env h lw hv (by
      have hlk2 : more.map (fun p => h[p.1]?) = more.map fun p => some p.2 := List.map_congr_left fun p hp => hlk' p (List.mem_cons_of_mem _ hp)
      exact hlk2) hn (fun _ e => by cases e)
    rw [this]
    have hset : h.set j .dead = h := by
      obtain ⟨hi, he⟩ := List.getElem?_eq_some_iff.1 hj
      rw [← he, List.set_getElem_self]
    simp only [hAppNil, hAppW, hcs, List.nil_append, hset]
  | succ n => exact good_app (n := N) (len := n + 1) T hb ha h1 h2 hop hsrc (.inl rfl) hl hleaf hroom
/-- A string's byte. -/
def hIxS (n : Nat) (s : ByteArray) (i : Nat) : Hint := { vals := [.str s, iN i], len := n, v := .int .u8 (byteAt s i) }
theorem good_ixS {P : Program} {E : Eqs} {Φ : Orc} {t : TypeId} {n : Nat} {s : ByteArray} {i : Nat} {x y : Operand} (hu : P.underlying t = some .string) (hi : i < s.size) : Hint.Good P E Φ (hIxS n s i) (.index t x y) := by
  intro env h lw hv _ _ _
  have hop : (Op.index t x y).operands.toList = [x, y] := rfl
  rw [hop] at hv
  simp only [hIxS, List.map_cons, List.map_nil, List.cons.injEq, and_true] at hv
  have hc : (0 : Int) ≤ (i : Int) ∧ (i : Int) < (s.size : Int) := by omega
  simp only [stepOp, dirOp, pureOp, hv.1, hv.2, indexA, hu, if_pos hc, Option.map_some, hIxS, Int.toNat_natCast]
  rfl
/-- A part of data that may be nil. -/
def slcV {α : Type} (enc : α → List AV) (k : Nat) (o : Option (List α)) (l h : Nat) : AV :=
  match o with
  | none => .nils
  | some xs => if h = l then .vsl [] 0 none else .vsl (((encL enc xs).drop (l * k)).take ((h - l) * k)) (h - l) none
theorem encL_dt {α : Type} {enc : α → List AV} {k : Nat} (hk : EncK enc k) (xs : List α) (l m : Nat) : ((encL enc xs).drop (l * k)).take (m * k) = encL enc ((xs.drop l).take m) := by
  have hd : ∀ (xs : List α) (l : Nat), (encL enc xs).drop (l * k) = encL enc (xs.drop l) := by
    intro xs
    induction xs with
    | nil => intro l; simp [encL_nil]
    | cons x xs ih =>
      intro l
      cases l with
      | zero => simp
      | succ l =>
        rw [encL_cons, List.drop_succ_cons, ← ih l]
        have : (l + 1) * k = (enc x).length + l * k := by rw [hk.len, Nat.add_mul]; omega
        rw [this, ← List.drop_drop, List.drop_left]
  have ht : ∀ (xs : List α) (m : Nat), (encL enc xs).take (m * k) = encL enc (xs.take m) := by
    intro xs
    induction xs with
    | nil => intro m; simp [encL_nil]
    | cons x xs ih =>
      intro m
      cases m with
      | zero => simp [encL_nil]
      | succ m =>
        rw [encL_cons, List.take_succ_cons, encL_cons, ← ih m]
        have : (m + 1) * k = (enc x).length + m * k := by rw [hk.len, Nat.add_mul]; omega
        rw [this, List.take_length_add_append]
  rw [hd, ht]
theorem slcV_src {α : Type} {enc : α → List AV} {k : Nat} (hk : EncK enc k) {o : Option (List α)} {l h : Nat} (hlh : l ≤ h) (hh : h ≤ (ls o).length) {hp : Heap} : srcA hp k (slcV enc k o l h) = some (encL enc (((ls o).drop l).take (h - l)), h - l, []) := by
  cases o with
  | none =>
    simp only [ls, Option.getD_none, List.length_nil] at hh
    have h0 : h = 0 := by omega
    have l0 : l = 0 := by omega
    subst h0; subst l0
    simp [slcV, srcA, ls, encL_nil]
  | some xs =>
    simp only [ls, Option.getD_some] at hh ⊢
    unfold slcV
    by_cases e : h = l
    · subst e; simp [srcA, encL_nil]
    · simp only [if_neg e, srcA]
      rw [encL_dt hk, if_pos (by rw [hk.length, List.length_take, List.length_drop, Nat.min_eq_left (by omega)])]
/-- x[:h] -/
def hSlH {α : Type} (n : Nat) (enc : α → List AV) (k : Nat) (o : Option (List α)) (h : Nat) : Hint := { vals := [encS enc o, iN h], len := n, v := slcV enc k o 0 h }
theorem good_slH {P : Program} {E : Eqs} {Φ : Orc} {t e : TypeId} {k : Nat} (hu : P.underlying t = some (.slice e)) (hs : szA P e = some k) {n : Nat} {x y : Operand} {α : Type} {enc : α → List AV} {o : Option (List α)} {h : Nat} (hh : h ≤ (ls o).length) :
    Hint.Good P E Φ (hSlH n enc k o h) (.slice t x none (some y) none) := by
  intro env hp lw hv _ _ _
  have hop : (Op.slice t x none (some y) none).operands.toList = [x, y] := rfl
  rw [hop] at hv
  simp only [hSlH, List.map_cons, List.map_nil, List.cons.injEq, and_true] at hv
  cases o with
  | none =>
    simp only [ls, Option.getD_none, List.length_nil] at hh
    obtain rfl : h = 0 := by omega
    simp [stepOp, dirOp, pureOp, hv.1, hv.2, sliceA, hu, hs, optA, bndA, encS, slcV, hSlH, lowOf, Eff.none]
  | some xs =>
    simp only [ls, Option.getD_some] at hh
    have hc : (0 : Int) ≤ (h : Int) ∧ (h : Int) ≤ (xs.length : Int) := by omega
    simp only [stepOp, dirOp, pureOp, hv.1, hv.2, sliceA, hu, hs, optA, bndA, encS, Option.map_some, Option.map_none, if_pos hc, Int.toNat_natCast, slcV, hSlH, Option.bind_eq_bind, Option.bind_some]
    by_cases e : h = 0 <;> simp [e, lowOf, Eff.none]
/-- x[l:] -/
def hSlL {α : Type} (n : Nat) (enc : α → List AV) (k : Nat) (o : Option (List α)) (l : Nat) : Hint := { vals := [encS enc o, iN l], len := n, v := slcV enc k o l (ls o).length }
theorem good_slL {P : Program} {E : Eqs} {Φ : Orc} {t e : TypeId} {k : Nat} (hu : P.underlying t = some (.slice e)) (hs : szA P e = some k) {n : Nat} {x y : Operand} {α : Type} {enc : α → List AV} {o : Option (List α)} {l : Nat} (hl : l ≤ (ls o).length) :
    Hint.Good P E Φ (hSlL n enc k o l) (.slice t x (some y) none none) := by
  intro env hp lw hv _ _ _
  have hop : (Op.slice t x (some y) none none).operands.toList = [x, y] := rfl
  rw [hop] at hv
  simp only [hSlL, List.map_cons, List.map_nil, List.cons.injEq, and_true] at hv
  cases o with
  | none =>
    simp only [ls, Option.getD_none, List.length_nil] at hl
    obtain rfl : l = 0 := by omega
    simp [stepOp, dirOp, pureOp, hv.1, hv.2, sliceA, hu, hs, optA, bndA, encS, slcV, hSlL, lowOf, Eff.none]
  | some xs =>
    simp only [ls, Option.getD_some] at hl
    have hc : (0 : Int) ≤ (l : Int) ∧ (l : Int) ≤ (xs.length : Int) := by omega
    simp only [stepOp, dirOp, pureOp, hv.1, hv.2, sliceA, hu, hs, optA, bndA, encS, Option.map_some, Option.map_none, if_pos hc, Int.toNat_natCast, slcV, hSlL, Option.bind_eq_bind, Option.bind_some, ls, Option.getD_some]
    by_cases e : xs.length = l <;> simp [e, lowOf, Eff.none]
theorem bytesLess_pre (p u v : List UInt8) : Op.bytesLess (p ++ u) (p ++ v) = Op.bytesLess u v := by
  induction p with
  | nil => rfl
  | cons a p ih => simp [Op.bytesLess, ih, UInt8.lt_irrefl]
/-- append of nothing to nil. -/
def hAppNil0 (n : Nat) (b : AV) (rd : List Nat) (more : List (Nat × Blk)) : Hint := { vals := [.nils, b], look := more, len := n, v := .nils, lw := fun lw => lowOf lw ⟨rd, []⟩, eff := ⟨⟨rd, []⟩, false, none⟩ }
theorem good_appNil0 {P : Program} {E : Eqs} {Φ : Orc} {st e : TypeId} {size bytes : Nat} (T : SlT P st e size bytes) {n : Nat} {b : AV} {rd : List Nat} {more : List (Nat × Blk)} {c : Call} {s o : Operand}
    (hb : isBuiltin c = true) (ha : isAppend c = true) (h1 : c.args.toList = [s, o]) (h2 : c.argTypes.toList = [st, st]) (hop : (Op.call c).operands.toList = [s, o])
    (hsrc : ∀ h : Heap, (∀ p ∈ more, h[p.1]? = some p.2) → srcA h size b = some ([], 0, rd)) :
    Hint.Good P E Φ (hAppNil0 n b rd more) (.call c) := by
  intro env h lw hv hlk hn _
  rw [hop] at hv
  simp only [hAppNil0, List.map_cons, List.map_nil, List.cons.injEq, and_true] at hv
  have hlk' := map_look (f := fun t => h[t]?) hlk
  obtain ⟨z, hz, hzl⟩ := Option.map_eq_some_iff.1 T.hz
  have : appendU P h st st .nils b = some (.nils, h, ⟨rd, []⟩) := by
    simp only [appendU, appendA, T.hu, isIntD, T.hs, T.hb, hz, hzl, true_and, if_pos T.h0, hsrc h hlk', if_true, Bool.false_eq_true, if_false]
  rw [← hv.1, ← hv.2] at this
  simp only [stepOp, hb, if_true, dirOp, ha, h1, h2, this, Option.map_some, hAppNil0]
  simp [hv.1]
/-- A call, its result and heap made plain. -/
theorem OrcAt.plain0 {P : Program} {f : FuncId} {args : List AV} {r r' : AV} {h : Heap} {lw : Nat} (k : OrcAt P f args [] r h lw) (hf : Frz h 0 [] r r') : OrcAt P f args [] r' [] 0 :=
  ⟨k.enters, SoundF.gc (fun L w vs hs hv => (k.sound L w vs hs hv).mono fun e w' ⟨r0, h0, L', v, hr, he, hv, st, kp⟩ => ⟨r0, h0, L', v, hr, he, hv, st, kp.less (Nat.zero_le _)⟩) (fun r0 h1 ⟨e1, e2⟩ => ⟨fun id h => by omega, [], r', [], ⟨rfl, List.nodup_nil, Nat.zero_le _, fun _ h => by simp at h, fun _ h => by simp at h, fun j id h => by simp at h⟩, by rw [e1, e2]; exact hf, rfl, rfl⟩), fun id h => by omega, Nat.le_refl _⟩
/-! ### more than one call in a region -/
theorem good_callO {P : Program} {E : Eqs} {Φ : Orc} {f : FuncId} {args : List AV} {r : AV} {n : Nat} {c : Call} {g : Operand} {xs : List Operand} (hΦ : ∀ h, Φ f args h = some (r, h, h.length)) (hc : c.callee = .value g) (hxs : c.args.toList = xs) : Hint.Good P E Φ (hCall n f args r) (.call c) := by
  intro env h lw hv _ hn _
  have hop : (Op.call c).operands.toList = g :: xs := by simp [Op.operands, Call.operands, hc, hxs]
  rw [hop] at hv
  simp only [hCall, List.map_cons, List.cons.injEq] at hv
  have hn' : h.length = n := hn
  have hcal : calleeA env c = some (f, args) := by
    simp only [calleeA, hc, hv.1, hxs, List.nil_append, List.append_nil, hv.2]
  have hb : isBuiltin c = false := by simp [isBuiltin, hc]
  rw [step_call (q := (r, h, h.length)) hb hcal (hΦ h)]
  simp [hCall, hn', callW]
section
variable {f f' : FuncId} {args args' : List AV} {r r' : AV} {a b : Orc}
theorem pure_self : ∀ h, pureOrc f args r f args h = some (r, h, h.length) := fun h => by simp [pureOrc]
theorem pure_ne (hf : f ≠ f') : ∀ h, pureOrc f' args' r' f args h = none := fun h => by simp [pureOrc, hf]
theorem orL (h1 : ∀ h, a f args h = some (r, h, h.length)) : ∀ h, orOrc a b f args h = some (r, h, h.length) := fun h => by simp [orOrc, h1 h]
theorem orR (h0 : ∀ h, a f args h = none) (h1 : ∀ h, b f args h = some (r, h, h.length)) : ∀ h, orOrc a b f args h = some (r, h, h.length) := fun h => by simp [orOrc, h0 h, h1 h]
theorem orN (h0 : ∀ h, a f args h = none) (h1 : ∀ h, b f args h = none) : ∀ h, orOrc a b f args h = none := fun h => by simp [orOrc, h0 h, h1 h]
end
end Go.Proofs.YtgcdpdkccaabcaaGreat.Ev
