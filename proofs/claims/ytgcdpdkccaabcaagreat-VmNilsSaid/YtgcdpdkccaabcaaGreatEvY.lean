/- Functions that defer one closure, which recovers where there is nothing to recover. Conditions: none (definitions and lemmas). -/
import Derived.Test.YtgcdpdkccaabcaaGreatEvX
import Derived.Recover
namespace Go.Proofs.YtgcdpdkccaabcaaGreat.Ev
open Go
set_option linter.unusedVariables false
set_option linter.unusedSimpArgs false
set_option linter.unusedSectionVars false
section
variable (P : Program) (E : Eqs) (Φ : Orc)
/-- A region that makes a closure and defers it. -/
def deferOf (c : Code) (s : St) : Option (St × FuncId × List AV) :=
  match c with
  | .region _ ops false => match ops.toList with
    | [o1, o2] => match o1.guard, o2.guard, o2.op with
      | none, none, .defer c => match stepOp P E Φ s.env s.h s.lw o1.op with
        | some (v, h', lw', _) => match calleeA (putA s.env o1.dst v) c with
          | some (f, args) => some (⟨putA (putA s.env o1.dst v) o2.dst (.tup []), h', lw'⟩, f, args)
          | none => none
        | none => none
      | _, _, _ => none
    | _ => none
  | _ => none
def evD (n : Nat) : Nat → Code → St → Option (Ex × St × FuncId × List AV)
  | k + 1, .seq a b, s => match deferOf P E Φ a s with
    | some (s1, f, args) => match evC P E Φ n b s1 with
      | some (x, s2) => some (x, s2, f, args)
      | none => none
    | none => match evC P E Φ n a s with
      | some (.normal, s1) => evD n k b s1
      | _ => none
  | _, _, _ => none
/-- What a closure that recovers comes to where there is no panic. -/
def quietOf (n : Nat) (f : FuncId) (args : List AV) (h : Heap) : Option St :=
  match P.funcs[f]? with
  | some fn => match fn.body with
    | some (.seq (.region _ ops false) rest) => match ops.toList with
      | [o] => match o.guard, o.dst, o.op with
        | none, some d, .call ⟨.builtin .recover, _, _⟩ =>
          if fn.results.toList.length = 0 ∧ (fn.name == "runtime.NumGoroutine") = false then match evC P E Φ n rest ⟨(envOf fn args).set d .nili, h, h.length⟩ with
            | some (.normal, s) => some s
            | some (.ret, s) => some s
            | _ => none
          else none
        | _, _, _ => none
      | _ => none
    | _ => none
  | none => none
def evFnD (n : Nat) (fn : Func) (args : List AV) (h : Heap) : Option (AV × Heap × Nat) :=
  match fn.body with
  | none => none
  | some c => match evD P E Φ n 40 c ⟨envOf fn args, h, h.length⟩ with
    | some (.normal, s1, f', args') | some (.ret, s1, f', args') => match quietOf P E Φ n f' args' s1.h with
      | some s2 => (resA P s2.h s1.env fn.results.toList).map fun vs => (oneOf vs, s2.h, min s1.lw s2.lw)
      | none => none
    | _ => none
end
section
variable {P : Program} {E : Eqs} (hE : EqsOk P E) {Φ : Orc} (hΦ : OrcOk P Φ) (hmix : P.follows .mixedOrders = true)
theorem quiet_run (hE : EqsOk P E) (hΦ : OrcOk P Φ) (hmix : P.follows .mixedOrders = true) {n : Nat} {f : FuncId} {args : List AV} {h : Heap} {s : St} (e : quietOf P E Φ n f args h = some s) {L : LC} {w : World} {vs : Array Value} (hs : SatH L h w) (hv : RVs L args vs.toList) :
    CallsD P f vs .returning w fun e u' w' => u' = .returning ∧ ∃ L' v, e = .returned v ∧ Stps L h w L' s.h w' ∧ Kept s.lw L w L' w' := by
  unfold quietOf at e
  split at e
  case h_2 => cases e
  rename_i fn hf
  split at e
  case h_2 => cases e
  rename_i rid ops rest hb
  split at e
  case h_2 => cases e
  rename_i o ho
  split at e
  case h_2 => cases e
  rename_i d as ats hg hd hop
  split at e
  case isFalse => cases e
  rename_i hres
  refine callsD_of_wpS hf hb fun c₀ cs hm => wpS_seq (wpS_region ?_)
  have hops : ops = #[o] := by rw [← Array.toList_inj]; exact ho
  subst hops
  have hrec : recoverD (c₀ :: cs) = none := by simp [recoverD, hm]
  have hwant : ∀ t : Array Value, Region.wanted o (yielded #[o] t) = true := fun t => by simp [Region.wanted, hg]
  have hexec : ∀ ρ : Operand → Value, (execOp ρ o).run P w = .ok .recover w := fun ρ => by
    obtain ⟨dst, op, ty, pos, after, guard⟩ := o
    simp only at hop
    subst hop
    simp only [execOp, resolve, Sem.run_bind, Sem.run_pure, Result.andThen_ok, invoke]
    rfl
  show wpOpsS P #[o] _ [0] _ _ _
  simp only [wpOpsS]
  rw [show (#[o] : Array Oper)[0]? = some o from rfl]
  simp only [hwant, if_true, hexec, hrec]
  simp only [Exit.thenS]
  refine wpS_of_wp ?_
  have fin : ∀ {x : Ex} {s' : St}, (x = .normal ∨ x = .ret) → s' = s → evC P E Φ n rest ⟨(envOf fn args).set d .nili, h, h.length⟩ = some (x, s') → rest.wp P (fun e a' w' => bodyPostS P fn c₀ cs (fun e u' w' => u' = .returning ∧ ∃ L' v, e = .returned v ∧ Stps L h w L' s.h w' ∧ Kept s.lw L w L' w') e a' (c₀ :: cs) w')
      (Act.put { tmps := vs ++ Array.replicate (fn.ntmps - vs.size) undef, defers := [] } o.dst .nilIface) w := by
    intro x s' hx hs' he
    subst hs'
    have henv : RVs L ((envOf fn args).set d .nili) (Act.put { tmps := vs ++ Array.replicate (fn.ntmps - vs.size) undef, defers := [] } o.dst .nilIface).tmps.toList := by
      rw [hd]
      simp only [Act.put, Array.toList_setIfInBounds]
      refine RVs.set ?_ d (by simp [RV])
      have hsz := hv.size
      simp only [envOf, Array.toList_append, Array.toList_replicate, hsz]
      exact hv.append (RVs.replicate (x := .tup []) (v := undef) ⟨#[], rfl, by simp [RVs]⟩ _)
    refine evC_run hE hΦ hmix n he L _ w _ hs henv ?_
    rintro x0 s0 a' w' L' ⟨rfl, rfl⟩ t k _ r hdf
    have hdf' : a'.defers = [] := by rw [hdf, hd]; rfl
    have hr0 : (results fn a'.tmps).run P w' = .ok (.tuple #[]) w' := by
      have hl : fn.results = #[] := by
        have : fn.results.size = 0 := by rw [← Array.length_toList]; exact hres.1
        exact Array.eq_empty_of_size_eq_zero this
      simp [results, hl]
    have post : a'.defers = [] ∧ ∃ u', c₀ :: cs = { c₀ with mode := u' } :: cs ∧ ∃ v, (results fn a'.tmps).run P w' = .ok v w' ∧ u' = .returning ∧ ∃ L' v', Ending.returned v = .returned v' ∧ Stps L h w L' s0.h w' ∧ Kept s0.lw L w L' w' :=
      ⟨hdf', .returning, by rw [← hm], _, hr0, rfl, L', _, rfl, t, k⟩
    rcases hx with rfl | rfl
    · exact post
    · exact post
  split at e
  · rename_i s' he
    cases e
    exact fin (.inl rfl) rfl he
  · rename_i s' he
    cases e
    exact fin (.inr rfl) rfl he
  · cases e
/-- One closure is deferred. -/
def DefOf (L : LC) (f : FuncId) (args : List AV) (ds : List Deferred) : Prop := ∃ cap dargs : Array Value, ds = [⟨.fn (.func f) cap, dargs⟩] ∧ RVs L args (dargs ++ cap).toList
theorem deferOf_run (hE : EqsOk P E) (hΦ : OrcOk P Φ) {c : Code} {s s1 : St} {f : FuncId} {args : List AV} (e : deferOf P E Φ c s = some (s1, f, args)) {L : LC} {a : Act} {w : World} {Q : Exit → Act → World → Prop} (hs : SatH L s.h w) (hr : RVs L s.env a.tmps.toList) (ha : a.defers = [])
    (hQ : ∀ a' w' L', Stps L s.h w L' s1.h w' → Kept s1.lw L w L' w' → RVs L' s1.env a'.tmps.toList → DefOf L' f args a'.defers → Q .normal a' w') : c.wp P Q a w := by
  unfold deferOf at e
  split at e
  case h_2 => cases e
  rename_i rid ops
  split at e
  case h_2 => cases e
  rename_i o1 o2 ho
  split at e
  case h_2 => cases e
  rename_i c hg1 hg2 hop
  split at e
  case h_2 => cases e
  rename_i v h' lw' eff hst
  split at e
  case h_2 => cases e
  rename_i f' args' hcal
  simp only [Option.some.injEq, Prod.mk.injEq] at e
  obtain ⟨rfl, rfl, rfl⟩ := e
  refine wp_region_list ?_
  rw [ho]
  have hw1 : ∀ t : Array Value, Region.wanted o1 (yielded ops t) = true := fun t => by simp [Region.wanted, hg1]
  have hw2 : ∀ t : Array Value, Region.wanted o2 (yielded ops t) = true := fun t => by simp [Region.wanted, hg2]
  simp only [wpList, hw1, if_true]
  refine .inl (stepOp_run hE hΦ (fp := fun _ => True) (fun x _ => evalA_rel hr x) hst hs (fun _ _ => trivial) _ _ ?_)
  rintro r w' ⟨L', st, kp, hrv⟩
  have hr1 := putA_rel (RVs.mono st.le _ _ hr) o1.dst hrv
  simp only [hw2, if_true]
  unfold calleeA at hcal
  split at hcal
  case h_2 => cases hcal
  rename_i g hgc
  split at hcal
  case h_2 => cases hcal
  rename_i f0 first cap hgv
  cases hcal
  have hgr := evalA_rel hr1 g
  rw [hgv] at hgr
  obtain ⟨v1, v2, hge, hv1, hv2⟩ := hgr
  have hexec : (execOp (a.put o1.dst r).eval o2).run P w' = .ok (.defer ⟨.fn (.func f') v2, v1 ++ c.args.map (a.put o1.dst r).eval⟩) w' := by
    obtain ⟨dst, op, ty, pos, after, guard⟩ := o2
    simp only at hop
    subst hop
    simp only [execOp, resolve, hgc, hge, Deferred.ofValue, Sem.run_bind, Sem.run_pure, Result.andThen_ok]
  refine .inl ?_
  show o2.upon P _ _ _ ((execOp (a.put o1.dst r).eval o2).run P w')
  rw [hexec, Oper.upon_defer]
  refine hQ _ w' L' (st.stps hs) kp ?_ ?_
  · have := putA_rel (a := { (a.put o1.dst r) with defers := ⟨.fn (.func f') v2, v1 ++ c.args.map (a.put o1.dst r).eval⟩ :: (a.put o1.dst r).defers }) hr1 o2.dst (x := .tup []) (v := undef) ⟨#[], rfl, by simp [RVs]⟩
    exact this
  · refine ⟨v2, v1 ++ c.args.map (a.put o1.dst r).eval, ?_, ?_⟩
    · rw [put_defers]
      show _ :: (a.put o1.dst r).defers = _
      rw [put_defers, ha]
    · simp only [Array.toList_append, Array.toList_map]
      exact (hv1.append (evals_rel _ fun x _ => evalA_rel hr1 x)).append hv2
theorem quiet_enters {n : Nat} {f : FuncId} {args : List AV} {h : Heap} {s : St} (e : quietOf P E Φ n f args h = some s) : EntersP P f := by
  unfold quietOf at e
  split at e
  case h_2 => cases e
  rename_i fn hf
  split at e
  case h_2 => cases e
  rename_i rid ops rest hb
  split at e
  case h_2 => cases e
  split at e
  case h_2 => cases e
  split at e
  case isFalse => cases e
  rename_i hres
  exact enters_of' hf hres.2 hb
theorem deferOf_low (hΦ : OrcOk P Φ) {c : Code} {s s1 : St} {f : FuncId} {args : List AV} (e : deferOf P E Φ c s = some (s1, f, args)) : s1.lw ≤ s.lw ∧ s.h.length ≤ s1.h.length ∧ ∀ id, id < s1.lw → id < s.h.length → s1.h[id]? = s.h[id]? := by
  unfold deferOf at e
  split at e
  case h_2 => cases e
  split at e
  case h_2 => cases e
  split at e
  case h_2 => cases e
  split at e
  case h_2 => cases e
  rename_i hst
  split at e
  case h_2 => cases e
  simp only [Option.some.injEq, Prod.mk.injEq] at e
  obtain ⟨rfl, rfl, rfl⟩ := e
  have := stepOp_low hΦ hst
  exact ⟨this.1, stepOp_len hΦ hst, this.2⟩
theorem evD_low (hΦ : OrcOk P Φ) {n : Nat} : ∀ (k : Nat) {c : Code} {s s2 : St} {x : Ex} {f : FuncId} {args : List AV}, evD P E Φ n k c s = some (x, s2, f, args) → s2.lw ≤ s.lw ∧ s.h.length ≤ s2.h.length ∧ ∀ id, id < s2.lw → id < s.h.length → s2.h[id]? = s.h[id]? := by
  intro k
  induction k with
  | zero => intro c s s2 x f args e; simp [evD] at e
  | succ k ih =>
    intro c s s2 x f args e
    cases c <;> simp only [evD, reduceCtorEq] at e
    rename_i a b
    have tr : ∀ {s1 : St}, (s1.lw ≤ s.lw ∧ s.h.length ≤ s1.h.length ∧ ∀ id, id < s1.lw → id < s.h.length → s1.h[id]? = s.h[id]?) → (s2.lw ≤ s1.lw ∧ s1.h.length ≤ s2.h.length ∧ ∀ id, id < s2.lw → id < s1.h.length → s2.h[id]? = s1.h[id]?) →
        s2.lw ≤ s.lw ∧ s.h.length ≤ s2.h.length ∧ ∀ id, id < s2.lw → id < s.h.length → s2.h[id]? = s.h[id]? := fun ⟨a1, a2, a3⟩ ⟨b1, b2, b3⟩ =>
      ⟨Nat.le_trans b1 a1, Nat.le_trans a2 b2, fun id h1 h2 => (b3 id h1 (by omega)).trans (a3 id (by omega) h2)⟩
    split at e
    · rename_i s1 f1 args1 hd
      split at e
      · rename_i x1 s3 hc
        cases e
        exact tr (deferOf_low hΦ hd) (evC_low hΦ n hc)
      · cases e
    · split at e
      · rename_i s1 hc
        exact tr (evC_low hΦ n hc) (ih e)
      · cases e
theorem evD_run (hE : EqsOk P E) (hΦ : OrcOk P Φ) (hmix : P.follows .mixedOrders = true) {n : Nat} : ∀ (k : Nat) {c : Code} {s s2 : St} {x : Ex} {f : FuncId} {args : List AV}, evD P E Φ n k c s = some (x, s2, f, args) → ∀ {L : LC} {a : Act} {w : World} {Q : Exit → Act → World → Prop}, SatH L s.h w → RVs L s.env a.tmps.toList → a.defers = [] →
    (∀ a' w' L', Stps L s.h w L' s2.h w' → Kept s2.lw L w L' w' → RVs L' s2.env a'.tmps.toList → DefOf L' f args a'.defers → Q x.real a' w') → c.wp P Q a w := by
  intro k
  induction k with
  | zero => intro c s s2 x f args e; simp [evD] at e
  | succ k ih =>
    intro c s s2 x f args e L a w Q hs hr ha hQ
    cases c <;> simp only [evD, reduceCtorEq] at e
    rename_i c1 c2
    split at e
    · rename_i s1 f1 args1 hd
      split at e
      · rename_i x1 s3 hc
        cases e
        refine wp_seq (deferOf_run hE hΦ hd hs hr ha fun a1 w1 L1 t1 k1 r1 ⟨cap, dargs, hdf, hda⟩ => ?_)
        refine evC_run hE hΦ hmix n hc L1 a1 w1 _ t1.sat r1 ?_
        rintro x0 s0 a2 w2 L2 ⟨rfl, rfl⟩ t2 k2 hl2 r2 d2
        have hq : Q x0.real a2 w2 := hQ a2 w2 L2 (t1.trans t2) (k1.trans k2 hl2 (Nat.le_refl _)) r2 ⟨cap, dargs, d2.trans hdf, RVs.mono t2.le _ _ hda⟩
        exact hq
      · cases e
    · split at e
      · rename_i s1 hc
        refine wp_seq (evC_run hE hΦ hmix n hc L a w _ hs hr ?_)
        rintro x0 s0 a2 w2 L2 ⟨rfl, rfl⟩ t2 k2 hl2 r2 d2
        have hlow := evD_low hΦ k e
        exact ih e t2.sat r2 (d2.trans ha) fun a3 w3 L3 t3 k3 r3 d3 => hQ a3 w3 L3 (t2.trans t3) (k2.trans k3 hlow.1 (Nat.le_refl _)) r3 d3
      · cases e
theorem evFnD_ok (hE : EqsOk P E) (hΦ : OrcOk P Φ) (hmix : P.follows .mixedOrders = true) {n : Nat} {f : FuncId} {fn : Func} (hf : P.funcs[f]? = some fn) (hname : (fn.name == "runtime.NumGoroutine") = false) {args : List AV} {h h' : Heap} {r : AV} {lw : Nat} (e : evFnD P E Φ n fn args h = some (r, h', lw)) : OrcAt P f args h r h' lw := by
  unfold evFnD at e
  split at e
  case h_1 => cases e
  rename_i c hb
  have fin : ∀ {x : Ex} {s1 : St} {f' : FuncId} {args' : List AV}, (x = .normal ∨ x = .ret) → evD P E Φ n 40 c ⟨envOf fn args, h, h.length⟩ = some (x, s1, f', args') →
      (match quietOf P E Φ n f' args' s1.h with | some s2 => (resA P s2.h s1.env fn.results.toList).map fun vs => (oneOf vs, s2.h, min s1.lw s2.lw) | none => none) = some (r, h', lw) → OrcAt P f args h r h' lw := by
    intro x s1 f' args' hx he e
    split at e
    case h_2 => cases e
    rename_i s2 hq
    obtain ⟨us, hus, e⟩ := Option.map_eq_some_iff.1 e
    cases e
    have hlow := evD_low hΦ 40 he
    have hqlow : s2.lw ≤ s1.h.length ∧ s1.h.length ≤ s2.h.length ∧ ∀ id, id < s2.lw → id < s1.h.length → s2.h[id]? = s1.h[id]? := by
      unfold quietOf at hq
      split at hq
      case h_2 => cases hq
      split at hq
      case h_2 => cases hq
      split at hq
      case h_2 => cases hq
      split at hq
      case h_2 => cases hq
      split at hq
      case isFalse => cases hq
      split at hq
      · rename_i hc; cases hq; exact evC_low hΦ n hc
      · rename_i hc; cases hq; exact evC_low hΦ n hc
      · cases hq
    refine ⟨enters_of' hf hname hb, ?_, fun id h1 h2 => (hqlow.2.2 id (by omega) (by omega)).trans (hlow.2.2 id (by omega) h2), Nat.le_trans hlow.2.1 hqlow.2.1⟩
    intro L w vs hs hv
    refine calls_of_wp_defers hf hb (evD_run hE hΦ hmix 40 he hs ?_ rfl ?_)
    · have hsz := hv.size
      simp only [envOf, Array.toList_append, Array.toList_replicate, hsz]
      exact hv.append (RVs.replicate (x := .tup []) (v := undef) ⟨#[], rfl, by simp [RVs]⟩ _)
    · rintro a' w' L' t k r ⟨cap, dargs, hdf, hda⟩
      have hleave : Leaves P fn a'.tmps (fun e w' => ∃ r0 h0 L' v, (r0 = oneOf us ∧ h0 = s2.h) ∧ e = .returned v ∧ RV L' r0 v ∧ Stps L h w L' h0 w' ∧ Kept (min s1.lw s2.lw) L w L' w') a'.defers .returning w' := by
        rw [hdf]
        refine leaves_cons (by simp) (quiet_enters hq _ _) ((quiet_run hE hΦ hmix hq t.sat hda).mono ?_)
        rintro e u' w2 ⟨rfl, L2, v, rfl, t2, k2⟩
        obtain ⟨rs, h1, h2⟩ := resA_run (P := P) t2.sat (RVs.mono t2.le _ _ r) hus
        have hrun : (results fn a'.tmps).run P w2 = .ok (if h : rs.toArray.size = 1 then rs.toArray[0] else .tuple rs.toArray) w2 := by
          unfold results
          simp only [Sem.run_bind]
          have : (fn.results.mapM (resM a')).run P w2 = .ok rs.toArray w2 := by
            rw [Array.mapM_eq_mapM_toList, Sem.run_map, h1]
            rfl
          have e1 : ((fn.results.mapM (resM a')).run P w2).andThen (fun vs w'' => (pure (if h : vs.size = 1 then vs[0] else Value.tuple vs) : Sem Value).run P w'') = .ok (if h : rs.toArray.size = 1 then rs.toArray[0] else .tuple rs.toArray) w2 := by
            rw [this]; rfl
          exact e1
        have hv : RV L2 (oneOf us) (if h : rs.toArray.size = 1 then rs.toArray[0] else .tuple rs.toArray) := by
          match us, rs, h2 with
          | [], [], _ => exact ⟨#[], rfl, by simp [RVs]⟩
          | [u], [v], h2 => simp only [RVs] at h2; simpa [oneOf] using h2.1
          | u1 :: u2 :: us, v1 :: v2 :: rs, h2 => exact ⟨(v1 :: v2 :: rs).toArray, by simp, by simpa using h2⟩
          | [], _ :: _, h2 => simp [RVs] at h2
          | _ :: _, [], h2 => simp [RVs] at h2
          | [_], _ :: _ :: _, h2 => simp [RVs] at h2
          | _ :: _ :: _, [_], h2 => simp [RVs] at h2
        exact ⟨_, hrun, _, _, L2, _, ⟨rfl, rfl⟩, rfl, hv, t.trans t2, k.trans k2 (Nat.min_le_left _ _) (Nat.min_le_right _ _)⟩
      rcases hx with rfl | rfl
      · exact hleave
      · exact hleave
  split at e
  · rename_i s1 f' args' he; exact fin (.inl rfl) he e
  · rename_i s1 f' args' he; exact fin (.inr rfl) he e
  · cases e
end
/-- All that a function calls, so many calls deep; closures that recover may be deferred. -/
def evG (P : Program) (E : Eqs) (fuel : Nat) (base : Orc) : Nat → Orc
  | 0 => base
  | n + 1 => fun f args h => match base f args h with
    | some r => some r
    | none => match P.funcs[f]? with
      | some fn => if fn.name == "runtime.NumGoroutine" then none else match evFn P E fuel (evG P E fuel base n) fn args h with
        | some r => some r
        | none => evFnD P E (evG P E fuel base n) fuel fn args h
      | none => none
theorem evG_ok {P : Program} {E : Eqs} (hE : EqsOk P E) (hmix : P.follows .mixedOrders = true) {fuel : Nat} {base : Orc} (hb : OrcOk P base) : ∀ n, OrcOk P (evG P E fuel base n) := by
  intro n
  induction n with
  | zero => exact hb
  | succ n ih =>
    intro f args h r h' lw e
    simp only [evG] at e
    split at e
    · rename_i q hq
      cases e
      exact hb _ _ _ _ _ _ hq
    · split at e
      · rename_i fn hf
        split at e
        · cases e
        · rename_i hn
          split at e
          · rename_i q hq
            cases e
            exact evFn_ok hE hmix ih hf (by simpa using hn) hq
          · exact evFnD_ok hE ih hmix hf (by simpa using hn) e
      · cases e
end Go.Proofs.YtgcdpdkccaabcaaGreat.Ev
