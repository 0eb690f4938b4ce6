/- Regions that draw their order: one evaluation in the order of the text serves every order. Conditions: none (definitions and lemmas). -/
import Derived.Test.YtgcdpdkccaabcaaGreatEvK
import Derived.Orders
namespace Go.Proofs.YtgcdpdkccaabcaaGreat.Ev
open Go
set_option linter.unusedVariables false
set_option linter.unusedSimpArgs false
set_option linter.unusedSectionVars false

/-! ### what stands before what -/
def maskOf (acc : List Nat) (o : Oper) : Nat := o.after.toList.foldl (fun s e => if Region.binds .any e then s ||| 2 ^ e.on ||| acc.getD e.on 0 else s) 0
def masks : List Oper → List Nat → List Nat
  | [], acc => acc
  | o :: rest, acc => masks rest (acc ++ [maskOf acc o])

theorem maskOf_bit {acc : List Nat} {o : Oper} {i : Nat} (h : (maskOf acc o).testBit i = true) : ∃ e ∈ o.after, Region.binds .any e = true ∧ (i = e.on ∨ (acc.getD e.on 0).testBit i = true) := by
  unfold maskOf at h
  have key : ∀ (l : List Edge) (s : Nat), (l.foldl (fun s e => if Region.binds .any e then s ||| 2 ^ e.on ||| acc.getD e.on 0 else s) s).testBit i = true → s.testBit i = true ∨ ∃ e ∈ l, Region.binds .any e = true ∧ (i = e.on ∨ (acc.getD e.on 0).testBit i = true) := by
    intro l
    induction l with
    | nil => intro s h; exact .inl h
    | cons e l ih =>
      intro s h
      simp only [List.foldl_cons] at h
      rcases ih _ h with h | ⟨e', he', hb⟩
      · by_cases hb : Region.binds .any e = true
        · rw [if_pos hb] at h
          simp only [Nat.testBit_or, Bool.or_eq_true] at h
          rcases h with (h | h) | h
          · exact .inl h
          · refine .inr ⟨e, by simp, hb, .inl ?_⟩
            rw [Nat.testBit_two_pow] at h
            exact (of_decide_eq_true h).symm
          · exact .inr ⟨e, by simp, hb, .inr h⟩
        · rw [if_neg hb] at h; exact .inl h
      · exact .inr ⟨e', by simp [he'], hb⟩
  rcases key _ _ h with h | ⟨e, he, h1, h2⟩
  · simp at h
  · exact ⟨e, by simpa using he, h1, h2⟩

def Closed (l : List Oper) (S : Nat → Prop) : Prop := ∀ j o, S j → l[j]? = some o → ∀ e ∈ o.after, Region.binds .any e = true → S e.on
theorem masks_closed {l : List Oper} {S : Nat → Prop} (hS : Closed l S) : ∀ (rest : List Oper) (acc pre : List _), l = pre ++ rest → pre.length = acc.length → (∀ k m, acc[k]? = some m → S k → ∀ i, m.testBit i = true → S i) →
    ∀ k m, (masks rest acc)[k]? = some m → S k → ∀ i, m.testBit i = true → S i := by
  intro rest
  induction rest with
  | nil => intro acc pre _ _ h; exact h
  | cons o rest ih =>
    intro acc pre hl hp h
    refine ih (acc ++ [maskOf acc o]) (pre ++ [o]) (by simp [hl]) (by simp [hp]) ?_
    intro k m hk hSk i hi
    rcases Nat.lt_or_ge k acc.length with hk' | hk'
    · rw [List.getElem?_append_left hk'] at hk
      exact h k m hk hSk i hi
    · rw [List.getElem?_append_right hk'] at hk
      have hk0 : k = acc.length := by
        have := (List.getElem?_eq_some_iff.1 hk).1
        simp at this
        omega
      subst hk0
      simp only [Nat.sub_self, List.getElem?_cons_zero, Option.some.injEq] at hk
      subst hk
      obtain ⟨e, he, hb, h2⟩ := maskOf_bit hi
      have hSe := hS acc.length o hSk (by rw [hl, ← hp]; simp) e he hb
      rcases h2 with rfl | h2
      · exact hSe
      · rcases Nat.lt_or_ge e.on acc.length with q | q
        · have : acc[e.on]? = some (acc.getD e.on 0) := by rw [List.getD_eq_getElem?_getD, List.getElem?_eq_getElem q]; rfl
          exact h _ _ this hSe i h2
        · rw [List.getD_eq_getElem?_getD, List.getElem?_eq_none q] at h2
          simp at h2

/-! ### what may be carried out in either order -/
def tmpsOf (xs : Array Operand) : List Tmp := xs.toList.filterMap fun | .tmp t => some t | _ => none
def guardTmp (ops : List Oper) (o : Oper) : Option Tmp := match o.guard with | some (j, _) => (ops[j]?).bind (·.dst) | none => none
def looks (ops : List Oper) (o : Oper) : List Tmp := (guardTmp ops o).toList ++ tmpsOf o.op.operands
def hits (d : Option Tmp) (l : List Tmp) : Bool := match d with | some t => l.contains t | none => false
/-- Of two operations: neither names what the other writes. -/
def apartT (ops : List Oper) (x y : Oper) : Bool := !hits x.dst (looks ops y) && !hits y.dst (looks ops x) && (match x.dst, y.dst with | some a, some b => a != b | _, _ => true)
def EffX.still (x : EffX) : Bool := x.e.rd.isEmpty && x.e.wr.isEmpty && !x.all && x.wall.isNone
/-- It touches nothing from a number on. -/
def clearOf (n : Nat) (y : EffX) : Bool := y.e.rd.all (fun id => decide (id < n)) && y.e.wr.all (fun id => decide (id < n)) && !y.all && y.wall.isNone
def wallOk (w : Option Nat) (y : EffX) : Bool := match w with | none => true | some n => clearOf n y
/-- Of two operations, x ahead of y in the text: neither writes what the other touches. 'lo', 'hi': the new blocks of x. -/
def indep (x y : EffX) (lo hi : Nat) : Bool :=
  wallOk x.wall y && (wallOk y.wall x && (y.wall.isNone || lo == hi)) &&
  x.e.wr.all (fun id => !y.e.rd.contains id && !y.e.wr.contains id && !y.all) &&
  y.e.wr.all (fun id => !x.e.rd.contains id && !x.e.wr.contains id && !x.all && !(decide (lo ≤ id) && decide (id < hi)))
structure Rec where
  o : Oper
  eff : EffX
  lo : Nat
  hi : Nat
/-- Nothing new, and number j, against all ahead of it. -/
def chkOne (ops : List Oper) (m : Nat) (y : Rec) : List Rec → Nat → Bool
  | [], _ => true
  | x :: xs, i => (m.testBit i || (apartT ops x.o y.o && indep x.eff y.eff x.lo x.hi)) && chkOne ops m y xs (i + 1)
def backOk (o : Oper) (j : Nat) : Bool := o.after.toList.all fun e => !Region.binds .any e || decide (e.on < j)
/-- The evaluation in the text's order, checked on the way. -/
def evDraw (P : Program) (E : Eqs) (Φ : Orc) (ops : List Oper) : List Oper → List Rec → List Nat → List AV → Heap → Nat → Option (List AV × Heap × Nat)
  | [], _, _, env, h, lw => some (env, h, lw)
  | o :: rest, recs, ms, env, h, lw =>
    if backOk o recs.length then
      match wantedA ops env o with
      | some true => match stepOp P E Φ env h lw o.op with
        | some (v, h', lw', eff) =>
          if chkOne ops (maskOf ms o) ⟨o, eff, h.length, h'.length⟩ recs 0 then
            evDraw P E Φ ops rest (recs ++ [⟨o, eff, h.length, h'.length⟩]) (ms ++ [maskOf ms o]) (putA env o.dst v) h' lw'
          else none
        | none => none
      | some false =>
        if chkOne ops (maskOf ms o) ⟨o, ⟨.none, false, none⟩, h.length, h.length⟩ recs 0 then
          evDraw P E Φ ops rest (recs ++ [⟨o, ⟨.none, false, none⟩, h.length, h.length⟩]) (ms ++ [maskOf ms o]) (putA env o.dst (.tup [])) h lw
        else none
      | none => none
    else none

/-- What one line of the evaluation says. -/
structure Line (P : Program) (E : Eqs) (Φ : Orc) (ops : List Oper) (o : Oper) (env : List AV) (h : Heap) (lw : Nat) (v : AV) (h' : Heap) (lw' : Nat) (eff : EffX) : Prop where
  step : (wantedA ops env o = some false ∧ v = .tup [] ∧ h' = h ∧ lw' = lw ∧ eff = ⟨.none, false, none⟩) ∨ (wantedA ops env o = some true ∧ stepOp P E Φ env h lw o.op = some (v, h', lw', eff))
theorem Line.len {P : Program} {E : Eqs} {Φ : Orc} (hΦ : OrcOk P Φ) {ops : List Oper} {o : Oper} {env : List AV} {h h' : Heap} {lw lw' : Nat} {v : AV} {eff : EffX} (l : Line P E Φ ops o env h lw v h' lw' eff) : h.length ≤ h'.length := by
  rcases l.step with ⟨_, _, rfl, _⟩ | ⟨_, e⟩
  · exact Nat.le_refl _
  · exact stepOp_len hΦ e
theorem Line.mod {P : Program} {E : Eqs} {Φ : Orc} (hΦ : OrcOk P Φ) {ops : List Oper} {o : Oper} {env : List AV} {h h' : Heap} {lw lw' : Nat} {v : AV} {eff : EffX} (l : Line P E Φ ops o env h lw v h' lw' eff) {id : Nat} (hid : id < h.length) (hn : ¬ eff.mods id) : h'[id]? = h[id]? := by
  rcases l.step with ⟨_, _, rfl, _⟩ | ⟨_, e⟩
  · rfl
  · exact stepOp_mod hΦ e hid hn
theorem Line.low {P : Program} {E : Eqs} {Φ : Orc} (hΦ : OrcOk P Φ) {ops : List Oper} {o : Oper} {env : List AV} {h h' : Heap} {lw lw' : Nat} {v : AV} {eff : EffX} (l : Line P E Φ ops o env h lw v h' lw' eff) : lw' ≤ lw ∧ ∀ id, id < lw' → id < h.length → h'[id]? = h[id]? := by
  rcases l.step with ⟨_, _, rfl, rfl, _⟩ | ⟨_, e⟩
  · exact ⟨Nat.le_refl _, fun _ _ _ => rfl⟩
  · exact stepOp_low hΦ e

/-- The whole evaluation, line by line. -/
structure Told (P : Program) (E : Eqs) (Φ : Orc) (ops : List Oper) (env0 : List AV) (h0 : Heap) (lw0 : Nat) (env' : List AV) (h' : Heap) (lw' : Nat) where
  envF : Nat → List AV
  hF : Nat → Heap
  vF : Nat → AV
  eF : Nat → EffX
  lF : Nat → Nat
  env_0 : envF 0 = env0
  h_0 : hF 0 = h0
  l_0 : lF 0 = lw0
  env_n : envF ops.length = env'
  h_n : hF ops.length = h'
  l_n : lF ops.length = lw'
  line : ∀ i o, ops[i]? = some o → Line P E Φ ops o (envF i) (hF i) (lF i) (vF i) (hF (i + 1)) (lF (i + 1)) (eF i)
  put : ∀ i o, ops[i]? = some o → envF (i + 1) = putA (envF i) o.dst (vF i)
  back : ∀ i o, ops[i]? = some o → ∀ e ∈ o.after, Region.binds .any e = true → e.on < i
  pair : ∀ i j x y m, i < j → ops[i]? = some x → ops[j]? = some y → (masks ops [])[j]? = some m → m.testBit i = true ∨ (apartT ops x y = true ∧ indep (eF i) (eF j) (hF i).length (hF (i + 1)).length = true)

theorem chkOne_spec {ops : List Oper} {m : Nat} {y : Rec} : ∀ {recs : List Rec} {k : Nat}, chkOne ops m y recs k = true → ∀ i x, recs[i]? = some x → m.testBit (k + i) = true ∨ (apartT ops x.o y.o = true ∧ indep x.eff y.eff x.lo x.hi = true) := by
  intro recs
  induction recs with
  | nil => intro k _ i x hx; simp at hx
  | cons r recs ih =>
    intro k h i x hx
    simp only [chkOne, Bool.and_eq_true, Bool.or_eq_true] at h
    cases i with
    | zero =>
      simp only [List.getElem?_cons_zero, Option.some.injEq] at hx
      subst hx
      exact h.1
    | succ i =>
      have := ih h.2 i x (by simpa using hx)
      rw [show k + 1 + i = k + (i + 1) from by omega] at this
      exact this

/-- What is told of the lines so far. -/
structure Sofar (P : Program) (E : Eqs) (Φ : Orc) (ops : List Oper) (env0 : List AV) (h0 : Heap) (lw0 : Nat) (k : Nat) (recs : List Rec) (ms : List Nat) (envF : Nat → List AV) (hF : Nat → Heap) (vF : Nat → AV) (eF : Nat → EffX) (lF : Nat → Nat) : Prop where
  env_0 : envF 0 = env0
  h_0 : hF 0 = h0
  l_0 : lF 0 = lw0
  len : recs.length = k
  mlen : ms.length = k
  line : ∀ i o, i < k → ops[i]? = some o → Line P E Φ ops o (envF i) (hF i) (lF i) (vF i) (hF (i + 1)) (lF (i + 1)) (eF i)
  put : ∀ i o, i < k → ops[i]? = some o → envF (i + 1) = putA (envF i) o.dst (vF i)
  back : ∀ i o, i < k → ops[i]? = some o → ∀ e ∈ o.after, Region.binds .any e = true → e.on < i
  recs : ∀ i o, i < k → ops[i]? = some o → recs[i]? = some ⟨o, eF i, (hF i).length, (hF (i + 1)).length⟩
  pair : ∀ i j x y m, i < j → j < k → ops[i]? = some x → ops[j]? = some y → ms[j]? = some m → m.testBit i = true ∨ (apartT ops x y = true ∧ indep (eF i) (eF j) (hF i).length (hF (i + 1)).length = true)

theorem evDraw_told {P : Program} {E : Eqs} {Φ : Orc} {ops : List Oper} {env0 : List AV} {h0 : Heap} {lw0 : Nat} : ∀ (rest : List Oper) {pre : List Oper} {recs : List Rec} {ms : List Nat} {env env' : List AV} {h h' : Heap} {lw lw' : Nat} {envF : Nat → List AV} {hF : Nat → Heap} {vF : Nat → AV} {eF : Nat → EffX} {lF : Nat → Nat},
    ops = pre ++ rest → Sofar P E Φ ops env0 h0 lw0 pre.length recs ms envF hF vF eF lF → masks ops [] = masks rest ms → envF pre.length = env → hF pre.length = h → lF pre.length = lw → evDraw P E Φ ops rest recs ms env h lw = some (env', h', lw') →
    Nonempty (Told P E Φ ops env0 h0 lw0 env' h' lw') := by
  intro rest
  induction rest with
  | nil =>
    intro pre recs ms env env' h h' lw lw' envF hF vF eF lF hl sf hm he hh hlw e
    simp only [evDraw, Option.some.injEq, Prod.mk.injEq] at e
    obtain ⟨rfl, rfl, rfl⟩ := e
    have hlen : ops.length = pre.length := by simp [hl]
    have lt : ∀ {i : Nat} {o : Oper}, ops[i]? = some o → i < pre.length := fun hi => by rw [← hlen]; exact (List.getElem?_eq_some_iff.1 hi).1
    exact ⟨⟨envF, hF, vF, eF, lF, sf.env_0, sf.h_0, sf.l_0, by rw [hlen]; exact he, by rw [hlen]; exact hh, by rw [hlen]; exact hlw, fun i o hi => sf.line i o (lt hi) hi, fun i o hi => sf.put i o (lt hi) hi, fun i o hi => sf.back i o (lt hi) hi,
      fun i j x y m hij hi hj hmj => sf.pair i j x y m hij (lt hj) hi hj (by rw [hm] at hmj; exact hmj)⟩⟩
  | cons o rest ih =>
    intro pre recs ms env env' h h' lw lw' envF hF vF eF lF hl sf hm he hh hlw e
    simp only [evDraw] at e
    by_cases hb : backOk o recs.length = true
    case neg => rw [if_neg hb] at e; cases e
    rw [if_pos hb] at e
    have ho : ops[pre.length]? = some o := by rw [hl]; simp
    have hbk : ∀ x ∈ o.after, Region.binds .any x = true → x.on < pre.length := by
      intro x hx hbx
      have := List.all_eq_true.1 hb x (by simpa using hx)
      simpa [hbx, sf.len] using this
    -- one line more
    have more : ∀ (v : AV) (h1 : Heap) (lw1 : Nat) (eff : EffX), Line P E Φ ops o env h lw v h1 lw1 eff → chkOne ops (maskOf ms o) ⟨o, eff, h.length, h1.length⟩ recs 0 = true →
        evDraw P E Φ ops rest (recs ++ [⟨o, eff, h.length, h1.length⟩]) (ms ++ [maskOf ms o]) (putA env o.dst v) h1 lw1 = some (env', h', lw') → Nonempty (Told P E Φ ops env0 h0 lw0 env' h' lw') := by
      intro v h1 lw1 eff ln hc e
      let k := pre.length
      let envF' : Nat → List AV := fun i => if i = k + 1 then putA env o.dst v else envF i
      let hF' : Nat → Heap := fun i => if i = k + 1 then h1 else hF i
      let vF' : Nat → AV := fun i => if i = k then v else vF i
      let eF' : Nat → EffX := fun i => if i = k then eff else eF i
      let lF' : Nat → Nat := fun i => if i = k + 1 then lw1 else lF i
      have a5 : ∀ i, i ≤ k → lF' i = lF i := fun i hi => if_neg (by omega)
      have b5 : lF' (k + 1) = lw1 := if_pos rfl
      have a1 : ∀ i, i ≤ k → envF' i = envF i := fun i hi => if_neg (by omega)
      have a2 : ∀ i, i ≤ k → hF' i = hF i := fun i hi => if_neg (by omega)
      have a3 : ∀ i, i < k → vF' i = vF i := fun i hi => if_neg (by omega)
      have a4 : ∀ i, i < k → eF' i = eF i := fun i hi => if_neg (by omega)
      have b1 : envF' (k + 1) = putA env o.dst v := if_pos rfl
      have b2 : hF' (k + 1) = h1 := if_pos rfl
      have b3 : vF' k = v := if_pos rfl
      have b4 : eF' k = eff := if_pos rfl
      refine ih (pre := pre ++ [o]) (envF := envF') (hF := hF') (vF := vF') (eF := eF') (lF := lF') (by simp [hl]) ?_ (by rw [hm]; rfl) (by simpa using b1) (by simpa using b2) (by simpa using b5) e
      have plen : (pre ++ [o]).length = k + 1 := by simp [k]
      have only : ∀ {i : Nat} {x : Oper}, ¬ i < k → i < k + 1 → ops[i]? = some x → i = k ∧ x = o := by
        intro i x h1 h2 hx
        have : i = k := by omega
        subst this
        exact ⟨rfl, by rw [ho] at hx; exact (Option.some.inj hx).symm⟩
      rw [plen]
      refine ⟨by rw [a1 0 (Nat.zero_le _)]; exact sf.env_0, by rw [a2 0 (Nat.zero_le _)]; exact sf.h_0, by rw [a5 0 (Nat.zero_le _)]; exact sf.l_0, by simp [sf.len, k], by simp [sf.mlen, k], fun i x hi hx => ?_, fun i x hi hx => ?_, fun i x hi hx => ?_, fun i x hi hx => ?_, fun i j x y m hij hj hx hy hmj => ?_⟩
      · by_cases hik : i < k
        · rw [a1 i (by omega), a2 i (by omega), a2 (i + 1) (by omega), a3 i hik, a4 i hik, a5 i (by omega), a5 (i + 1) (by omega)]; exact sf.line i x hik hx
        · obtain ⟨rfl, rfl⟩ := only hik hi hx
          rw [a1 k (Nat.le_refl _), a2 k (Nat.le_refl _), a5 k (Nat.le_refl _), b2, b3, b4, b5, show envF k = env from he, show hF k = h from hh, show lF k = lw from hlw]; exact ln
      · by_cases hik : i < k
        · rw [a1 i (by omega), a1 (i + 1) (by omega), a3 i hik]; exact sf.put i x hik hx
        · obtain ⟨rfl, rfl⟩ := only hik hi hx
          rw [b1, a1 k (Nat.le_refl _), b3, show envF k = env from he]
      · by_cases hik : i < k
        · exact sf.back i x hik hx
        · obtain ⟨rfl, rfl⟩ := only hik hi hx
          exact hbk
      · by_cases hik : i < k
        · rw [a2 i (by omega), a2 (i + 1) (by omega), a4 i hik, List.getElem?_append_left (by rw [sf.len]; exact hik)]; exact sf.recs i x hik hx
        · obtain ⟨rfl, rfl⟩ := only hik hi hx
          rw [a2 k (Nat.le_refl _), b2, b4, show hF k = h from hh, List.getElem?_append_right (by rw [sf.len]; exact Nat.le_refl _), sf.len]
          simp [k]
      · by_cases hjk : j < k
        · rw [a2 i (by omega), a2 (i + 1) (by omega), a4 i (by omega), a4 j hjk]
          exact sf.pair i j x y m hij hjk hx hy (by rw [List.getElem?_append_left (by rw [sf.mlen]; exact hjk)] at hmj; exact hmj)
        · obtain ⟨rfl, rfl⟩ := only hjk hj hy
          rw [a2 i (by omega), a2 (i + 1) (by omega), a4 i hij, b4]
          have hm0 : m = maskOf ms y := by
            rw [List.getElem?_append_right (by rw [sf.mlen]; exact Nat.le_refl _), sf.mlen] at hmj
            simpa [k] using hmj.symm
          have := chkOne_spec hc i _ (sf.recs i x hij hx)
          rw [Nat.zero_add] at this
          rw [hm0]
          exact this
    split at e
    · rename_i hw
      split at e
      · rename_i v h1 lw1 eff hst
        split at e
        · rename_i hc
          exact more v h1 lw1 eff ⟨.inr ⟨hw, hst⟩⟩ hc e
        · cases e
      · cases e
    · rename_i hw
      split at e
      · rename_i hc
        exact more _ h lw _ ⟨.inl ⟨hw, rfl, rfl, rfl, rfl⟩⟩ hc e
      · cases e
    · cases e
end Go.Proofs.YtgcdpdkccaabcaaGreat.Ev
