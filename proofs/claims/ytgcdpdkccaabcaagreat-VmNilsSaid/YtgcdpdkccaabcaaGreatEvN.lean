/- Regions that draw their order: whatever order is drawn, it ends as the evaluation does. Conditions: none (definitions and lemmas). -/
import Derived.Test.YtgcdpdkccaabcaaGreatEvM
namespace Go.Proofs.YtgcdpdkccaabcaaGreat.Ev
open Go
set_option linter.unusedVariables false
set_option linter.unusedSimpArgs false
set_option linter.unusedSectionVars false

section draw
variable {P : Program} {E : Eqs} {Φ : Orc} {ops : List Oper} {env0 env' : List AV} {h0 h' : Heap} {lw0 lwn : Nat} (T : Told P E Φ ops env0 h0 lw0 env' h' lwn)
variable (hΦ : OrcOk P Φ)

theorem Told.J.looksAt (hΦ : OrcOk P Φ) {L0 : LC} {w0 : World} {a0 : Act} {S : Nat → Prop} {L : LC} {a : Act} {w : World} (J : T.J L0 w0 a0 S L a w) {j : Nat} {o : Oper} (hj : ops[j]? = some o) (hpre : ∀ e ∈ o.after, Region.binds .any e = true → S e.on) (hjS : ¬ S j)
    {τ : Nat} (hτ : τ ∈ looks ops o) (hlt : τ < env0.length) : ∃ x v, (T.envF j)[τ]? = some x ∧ a.tmps[τ]? = some v ∧ RV (L.cut (T.hF j).length) x v := by
  have hjl := (List.getElem?_eq_some_iff.1 hj).1
  obtain ⟨x, b, h1, h2, h3⟩ := T.val_at (S := S) hΦ hlt (k := j) (Nat.le_of_lt hjl) (fun t ht hd => by
    refine Classical.byContradiction fun hnS => ?_
    have htl : t < ops.length := by omega
    have := ((T.before J.closed hj (List.getElem?_eq_getElem htl) hpre hjS).1 ht hnS).1
    rw [List.getElem?_eq_getElem htl] at hd
    simp only [Option.bind_some] at hd
    simp only [apartT, Bool.and_eq_true, Bool.not_eq_true', hd, hits] at this
    rw [List.contains_iff_mem.2 hτ] at this
    cases this.1.1)
  have e : T.val S ops.length τ = T.val S j τ := T.val_same (Nat.le_of_lt hjl) fun t h1 h2 hS hd => by
    have hne : j ≠ t := fun e => hjS (e ▸ hS)
    have := ((T.before J.closed hj (List.getElem?_eq_getElem h2) hpre hjS).2 (by omega) hS).1
    rw [List.getElem?_eq_getElem h2] at hd
    simp only [Option.bind_some] at hd
    simp only [apartT, Bool.and_eq_true, Bool.not_eq_true', hd, hits] at this
    rw [List.contains_iff_mem.2 hτ] at this
    cases this.1.2
  obtain ⟨v, g1, g2⟩ := J.env τ x b hlt (by rw [e]; exact h1)
  exact ⟨x, v, h2, g1, RV.mono (LC.cut_le (fun _ _ e => e) (fun _ _ _ e => .inl e) (fun _ _ e => e) h3) _ _ g2⟩

theorem Told.J.satOn (hΦ : OrcOk P Φ) {L0 : LC} {w0 : World} {a0 : Act} {S : Nat → Prop} {L : LC} {a : Act} {w : World} (J : T.J L0 w0 a0 S L a w) {j : Nat} {o : Oper} (hj : ops[j]? = some o) (hpre : ∀ e ∈ o.after, Region.binds .any e = true → S e.on) (hjS : ¬ S j) :
    SatOn (T.eF j).fp (L.cut (T.hF j).length) (T.hF j) w := by
  refine ⟨J.imm, fun id p e => (LC.cut_ρ.1 e).1, fun id p e => J.big id p (LC.cut_ρ.1 e).2, fun id p e => J.not_m id p (LC.cut_ρ.1 e).2, fun id p e d => J.alive id p (LC.cut_ρ.1 e).2 d.2, fun id p f e => ?_,
    fun i k p q e1 e2 hb => J.inj i k p q (LC.cut_ρ.1 e1).2 (LC.cut_ρ.1 e2).2 hb, fun id d => d.1, fun id d f => ?_⟩
  · have e' := LC.cut_ρ.1 e
    have hc := J.cont_before T hΦ hj hpre hjS f e'.1 (J.dom id p e'.2).2
    have := J.blk id p e'.2
    rw [hc.1] at this
    exact BlkR.mono (LC.cut_le (fun _ _ e => e) (fun _ _ _ e => .inl e) (fun _ _ e => e) hc.2) rfl this
  · have hd := J.dead id d.2
    rw [← (J.cont_before T hΦ hj hpre hjS f d.1 hd.2.1).1]
    exact hd.2.2

theorem Told.J.opsR (hΦ : OrcOk P Φ) {L0 : LC} {w0 : World} {a0 : Act} {S : Nat → Prop} {L : LC} {a : Act} {w : World} (J : T.J L0 w0 a0 S L a w) {j : Nat} {o : Oper} (hj : ops[j]? = some o) (hpre : ∀ e ∈ o.after, Region.binds .any e = true → S e.on) (hjS : ¬ S j) :
    OpsR (L.cut (T.hF j).length) (T.envF j) a o.op.operands := by
  have hjl := (List.getElem?_eq_some_iff.1 hj).1
  have hlen := T.env_len (k := j) (Nat.le_of_lt hjl)
  intro x hx
  cases x with
  | tmp t =>
    simp only [evalA, Act.eval]
    rcases Nat.lt_or_ge t env0.length with q | q
    · have hin : t ∈ looks ops o := by
        simp only [looks, List.mem_append]
        refine .inr ?_
        simp only [tmpsOf, List.mem_filterMap]
        exact ⟨.tmp t, by simpa using hx, rfl⟩
      obtain ⟨y, v, h1, h2, h3⟩ := J.looksAt T hΦ hj hpre hjS hin q
      have hs : t < a.tmps.size := by rw [J.size]; exact q
      have e1 : a.tmps[t]'hs = v := by
        have := Array.getElem?_eq_getElem hs
        rw [h2] at this
        exact (Option.some.inj this).symm
      rw [List.getD_eq_getElem?_getD, h1]
      simp only [Array.getD, hs, dif_pos, Option.getD_some]
      show RV _ y (a.tmps[t]'hs)
      rw [e1]
      exact h3
    · rw [List.getD_eq_getElem?_getD, List.getElem?_eq_none (by rw [hlen]; exact q)]
      have hs : ¬ t < a.tmps.size := by rw [J.size]; exact Nat.not_lt.2 q
      simp only [Array.getD, hs, dif_neg, not_false_eq_true, Option.getD_none]
      exact ⟨#[], rfl, by simp [RVs]⟩
  | const v => exact absV_rel _ v
  | global g => simp [evalA, RV]
  | func f => exact ⟨_, _, rfl, by simp [RVs], by simp [RVs]⟩

/-- The operation that comes up. -/
theorem Told.J.op (hΦ : OrcOk P Φ) (hE : EqsOk P E) {Q : Exit → Act → World → Prop} {opsA : Array Oper} (hA : opsA.toList = ops) {L0 : LC} {w0 : World} {a0 : Act} {S : Nat → Prop} {L : LC} {a : Act} {w : World} (J : T.J L0 w0 a0 S L a w) {j : Nat} {o : Oper} (hj : ops[j]? = some o) (hpre : ∀ e ∈ o.after, Region.binds .any e = true → S e.on) (hjS : ¬ S j)
    {K : Act → World → Prop} (hK : ∀ L' a' w', T.J L0 w0 a0 (fun t => S t ∨ t = j) L' a' w' → K a' w') : wpOp P opsA Q j K a w := by
  have hjl := (List.getElem?_eq_some_iff.1 hj).1
  have ln := T.line j o hj
  have hopsR := J.opsR T hΦ hj hpre hjS
  have hsat := J.satOn T hΦ hj hpre hjS
  have hjA : opsA[j]? = some o := by rw [← Array.getElem?_toList, hA]; exact hj
  have want : ∀ b, wantedA ops (T.envF j) o = some b → Region.wanted o (yielded opsA a.tmps) = b := by
    intro b hb
    refine wantedA_run (L := L.cut (T.hF j).length) (by rw [hA]; exact hb) (by rw [T.env_len (Nat.le_of_lt hjl), J.size]) fun i want t x hg ht hx => ?_
    have hlt : t < env0.length := by
      rw [← T.env_len (k := j) (Nat.le_of_lt hjl)]
      exact (List.getElem?_eq_some_iff.1 hx).1
    have hin : t ∈ looks ops o := by
      simp only [looks, List.mem_append]
      refine .inl ?_
      have ht' : (ops[i]?).bind (·.dst) = some t := by rw [← hA, Array.getElem?_toList]; exact ht
      simp [guardTmp, hg, ht']
    obtain ⟨y, v, h1, h2, h3⟩ := J.looksAt T hΦ hj hpre hjS hin hlt
    rw [h1] at hx
    cases hx
    exact ⟨v, h2, h3⟩
  unfold wpOp
  simp only [hjA]
  rcases ln.step with ⟨hw, hv, hh, hl, he⟩ | ⟨hw, hst⟩
  · rw [if_neg (by simp [want _ hw])]
    have st : Stp (T.eF j).mods (L.cut (T.hF j).length) (T.hF j) w (L.cut (T.hF j).length) (T.hF (j + 1)) w := by
      rw [hh]
      exact Stp.none hsat _ fun id h => mods_fp h
    obtain ⟨L', J'⟩ := J.next T hΦ hj hpre hjS st (.refl _ _ _) (r := undef) (by rw [hv]; exact ⟨#[], rfl, by simp [RVs]⟩)
    exact hK L' _ _ J'
  · rw [if_pos (want _ hw)]
    refine .inl (stepOp_run hE hΦ (fp := (T.eF j).fp) hopsR hst hsat (fun _ h => h) _ _ ?_)
    rintro r w1 ⟨L1, st, kp, hr⟩
    obtain ⟨L', J'⟩ := J.next T hΦ hj hpre hjS st kp hr
    exact hK L' _ _ J'

/-- At the end. -/
theorem Told.J.done (hΦ : OrcOk P Φ) {L0 : LC} {w0 : World} {a0 : Act} {S : Nat → Prop} {L : LC} {a : Act} {w : World} (J : T.J L0 w0 a0 S L a w) (hall : ∀ t, t < ops.length → S t) :
    Stps L0 h0 w0 L h' w ∧ Kept lwn L0 w0 L w ∧ RVs L env' a.tmps.toList ∧ a.defers = a0.defers := by
  have hc : ∀ id, T.cont S ops.length id = h'[id]? := fun id => by
    rw [T.cont_at hΦ (Nat.le_refl _) fun t ht _ => hall t ht, T.h_n]
  have hlen : env'.length = env0.length := by rw [← T.env_n]; exact T.env_len (Nat.le_refl _)
  have hsat : SatH L h' w := by
    refine ⟨J.imm, fun id p e => (J.dom id p e).1, J.big, J.not_m, J.alive, fun id p _ e => ?_, J.inj, fun id d => (J.dead id d).1, fun id d _ => by rw [← hc]; exact (J.dead id d).2.2⟩
    rw [← hc]
    exact BlkR.mono LC.cut_self rfl (J.blk id p e)
  have h0n : h0.length ≤ h'.length := by
    have := T.mono hΦ (i := 0) (j := ops.length) (Nat.zero_le _) (Nat.le_refl _)
    rwa [T.h_0, T.h_n] at this
  refine ⟨⟨J.le, J.os, J.tape, J.output, J.wsize, J.keep, J.orig, h0n, J.newm, J.newdead, hsat⟩, J.kept, ?_, J.defers⟩
  refine RVs.of_get (hlen.trans (J.size.symm.trans Array.length_toList.symm)) fun τ x v hx hv => ?_
  have hτ : τ < env0.length := by rw [← hlen]; exact (List.getElem?_eq_some_iff.1 hx).1
  obtain ⟨y, b, h1, h2, _⟩ := T.val_at (S := S) hΦ hτ (Nat.le_refl _) fun t ht _ => hall t ht
  rw [T.env_n, hx] at h2
  cases h2
  obtain ⟨v', g1, g2⟩ := J.env τ x b hτ h1
  have : v' = v := by
    rw [Array.getElem?_toList, g1] at hv
    exact Option.some.inj hv
  subst this
  exact RV.mono LC.cut_self _ _ g2

/-- At the start. -/
theorem Told.J.start {L0 : LC} {w0 : World} {a0 : Act} (hΦ : OrcOk P Φ) (s : SatH L0 h0 w0) (hr : RVs L0 env0 a0.tmps.toList) : T.J L0 w0 a0 (fun _ => False) L0 a0 w0 := by
  have hmk : ∀ id, id < h0.length → ∀ t, t < ops.length → T.makes t id → False := fun id hid t ht hm => by
    have := T.mono hΦ (i := 0) (j := t) (Nat.zero_le _) (by omega)
    rw [T.h_0] at this
    have := hm.1
    omega
  have hc : ∀ id, T.cont (fun _ => False) ops.length id = h0[id]? := fun id => by
    rw [T.cont_same (j := 0) (Nat.zero_le _) fun _ _ _ f => f.elim]; rfl
  have hb : ∀ id, T.bnd (fun _ => False) ops.length id = h0.length := fun id => by
    rw [T.bnd_same (j := 0) (Nat.zero_le _) fun _ _ _ f => f.elim]; rfl
  have h0n : h0.length ≤ h'.length := by
    have := T.mono hΦ (i := 0) (j := ops.length) (Nat.zero_le _) (Nat.le_refl _)
    rwa [T.h_0, T.h_n] at this
  have lecut : LE L0 (L0.cut h0.length) := ⟨fun _ _ e => e, fun id p e => .inl (LC.cut_ρ.2 ⟨s.lt id p e, e⟩), fun id d => ⟨s.dead_lt id d, d⟩⟩
  refine ⟨s.imm, s.big, s.not_m, s.alive, s.inj, fun id p e => ⟨Nat.lt_of_lt_of_le (s.lt id p e) h0n, hmk id (s.lt id p e)⟩, fun id p e => ?_, fun id d => ⟨Nat.lt_of_lt_of_le (s.dead_lt id d) h0n, hmk id (s.dead_lt id d), ?_⟩, hr.size.symm, fun τ x k hτ hv => ?_, rfl, fun _ _ f => f.elim, .refl _, rfl, rfl, rfl, Nat.le_refl _, fun _ _ _ => rfl, fun _ _ e => .inl e, fun _ _ e => .inl e, fun _ d => .inl d, .refl _ _ _, s.lt⟩
  · rw [hc, hb]
    exact BlkR.mono lecut rfl (s.blk id p trivial e)
  · rw [hc]; exact s.dead id d trivial
  · rw [T.val_same (j := 0) (Nat.zero_le _) fun _ _ _ f => f.elim] at hv
    simp only [Told.val, Option.map_eq_some_iff, Prod.mk.injEq] at hv
    obtain ⟨y, hy, rfl, rfl⟩ := hv
    obtain ⟨v, h1, h2⟩ := hr.getElem? hy
    exact ⟨v, h1, RV.mono lecut _ _ h2⟩
end draw

theorem evDraw_run {P : Program} {E : Eqs} (hE : EqsOk P E) {Φ : Orc} (hΦ : OrcOk P Φ) (hmix : P.follows .mixedOrders = true) {opsA : Array Oper} {Q : Exit → Act → World → Prop} {env0 env' : List AV} {h0 h' : Heap} {lw lw' : Nat} {L0 : LC} {a0 : Act} {w0 : World} {rid : Nat}
    (e : evDraw P E Φ opsA.toList opsA.toList [] [] env0 h0 lw = some (env', h', lw')) (s : SatH L0 h0 w0) (hr : RVs L0 env0 a0.tmps.toList)
    (hQ : ∀ a' w' L', Stps L0 h0 w0 L' h' w' → Kept lw' L0 w0 L' w' → RVs L' env' a'.tmps.toList → a'.defers = a0.defers → Q .normal a' w') : (Code.region rid opsA true).wp P Q a0 w0 := by
  obtain ⟨T⟩ := evDraw_told (P := P) (E := E) (Φ := Φ) (ops := opsA.toList) (env0 := env0) (h0 := h0) (lw0 := lw) opsA.toList (pre := []) (recs := []) (ms := []) (envF := fun _ => env0) (hF := fun _ => h0) (vF := fun _ => .any) (eF := fun _ => ⟨.none, false, none⟩) (lF := fun _ => lw) rfl
    ⟨rfl, rfl, rfl, rfl, rfl, fun i o hi _ => absurd hi (Nat.not_lt_zero _), fun i o hi _ => absurd hi (Nat.not_lt_zero _), fun i o hi _ => absurd hi (Nat.not_lt_zero _), fun i o hi _ => absurd hi (Nat.not_lt_zero _), fun i j x y m _ hj => absurd hj (Nat.not_lt_zero _)⟩ rfl rfl rfl rfl e
  refine wp_region_any hmix ?_
  have key : ∀ (fuel : Nat) (listed : Array Bool) (L : LC) (a : Act) (w : World), listed.size = opsA.size → (((List.range opsA.size).filter fun i => !listed.getD i false).length ≤ fuel) →
      T.J L0 w0 a0 (fun t => listed.getD t false = true) L a w → wpAny P .any opsA Q fuel listed a w := by
    intro fuel
    induction fuel with
    | zero =>
      intro listed L a w hsz hf J
      have hall : ∀ t, t < opsA.toList.length → listed.getD t false = true := by
        intro t ht
        refine Classical.byContradiction fun hn => ?_
        have : t ∈ (List.range opsA.size).filter fun i => !listed.getD i false := by
          simp only [List.mem_filter, List.mem_range, Bool.not_eq_true']
          exact ⟨by simpa using ht, by simpa using hn⟩
        have := List.length_pos_of_mem this
        omega
      obtain ⟨g1, g2, g3, g4⟩ := J.done T hΦ hall
      refine ⟨?_, hQ a w L g1 g2 g3 g4⟩
      refine List.eq_nil_iff_forall_not_mem.2 fun j hj => ?_
      obtain ⟨h1, o, ho, _⟩ := mem_ready.1 hj
      have hjl := (Array.getElem?_eq_some_iff.1 ho).1
      have := hall j (by simpa using hjl)
      have hjs : j < listed.size := by rw [hsz]; exact hjl
      simp only [Array.getD, hjs, dif_pos] at this h1
      rw [this] at h1
      cases h1
    | succ fuel ih =>
      intro listed L a w hsz hf J
      have agree : ∀ j, j < opsA.size → listed.getD j true = listed.getD j false := by
        intro j hj
        have hjs : j < listed.size := by rw [hsz]; exact hj
        simp only [Array.getD, hjs, dif_pos]
      refine ⟨fun hnil => ?_, fun j hj => ?_⟩
      · -- nothing is ready: all are listed
        have hall : ∀ t, t < opsA.toList.length → listed.getD t false = true := by
          intro t
          induction t using Nat.strongRecOn with
          | _ t iht =>
            intro ht
            refine Classical.byContradiction fun hn => ?_
            have ht' : t < opsA.size := by simpa using ht
            have : t ∈ Region.ready .any opsA listed := by
              refine mem_ready.2 ⟨by rw [agree t ht']; simpa using hn, opsA[t], Array.getElem?_eq_getElem ht', fun e he hb => ?_⟩
              have hlt := T.back t opsA[t] (by rw [Array.getElem?_toList]; exact Array.getElem?_eq_getElem ht') e he hb
              exact iht e.on hlt (by omega)
            rw [hnil] at this
            cases this
        obtain ⟨g1, g2, g3, g4⟩ := J.done T hΦ hall
        exact hQ a w L g1 g2 g3 g4
      · obtain ⟨h1, o, ho, hall⟩ := mem_ready.1 hj
        have hjl := (Array.getElem?_eq_some_iff.1 ho).1
        have hjs : j < listed.size := by rw [hsz]; exact hjl
        have hjS : ¬ (listed.getD j false = true) := by rw [← agree j hjl, h1]; simp
        refine J.op T hΦ hE rfl (by rw [Array.getElem?_toList]; exact ho) (fun e he hb => hall e he hb) hjS fun L' a' w' J' => ?_
        have hS : (fun t => listed.getD t false = true ∨ t = j) = fun t => (listed.setIfInBounds j true).getD t false = true := by
          funext t
          apply propext
          by_cases ht : t = j
          · subst ht
            simp [hjs]
          · rw [getD_set_ne false (Ne.symm ht)]
            simp [ht]
        rw [hS] at J'
        refine ih _ L' a' w' (by simpa using hsz) ?_ J'
        have hlt : ((List.range opsA.size).filter fun i => !(listed.setIfInBounds j true).getD i false).length < ((List.range opsA.size).filter fun i => !listed.getD i false).length := by
          have e1 : ((List.range opsA.size).filter fun i => !(listed.setIfInBounds j true).getD i false) = ((List.range opsA.size).filter fun i => !listed.getD i false).filter fun i => i != j := by
            rw [List.filter_filter]
            refine List.filter_congr fun i hi => ?_
            by_cases hij : i = j
            · subst hij; simp [hjs]
            · rw [getD_set_ne false (Ne.symm hij)]; simp [hij]
          rw [e1]
          refine List.length_filter_lt_length_iff_exists.2 ⟨j, ?_, by simp⟩
          simp only [List.mem_filter, List.mem_range, Bool.not_eq_true']
          exact ⟨hjl, by simpa using hjS⟩
        omega
  refine key opsA.size (Array.replicate opsA.size false) L0 a0 _ (by simp) ?_ ?_
  · refine Nat.le_trans (List.length_filter_le _ _) ?_
    simp
  · have hS : (fun t => (Array.replicate opsA.size false).getD t false = true) = fun _ => False := by
      funext t
      apply propext
      simp only [Array.getD, Array.size_replicate, iff_false]
      split <;> simp
    rw [hS]
    have J0 := Told.J.start T hΦ (s.drawn (w0.drawn + 1)) hr
    exact ⟨J0.imm, J0.big, J0.not_m, J0.alive, J0.inj, J0.dom, J0.blk, J0.dead, J0.size, J0.env, J0.defers, J0.closed, J0.le, J0.os, J0.tape, J0.output, J0.wsize, J0.keep, J0.orig, J0.newm, J0.newdead, ⟨fun id p hid e => J0.kept.keep id p hid e⟩, J0.ids0⟩

theorem evDraw_low {P : Program} {E : Eqs} {Φ : Orc} (hΦ : OrcOk P Φ) {ops : List Oper} : ∀ (l : List Oper) {recs : List Rec} {ms : List Nat} {env env' : List AV} {h h' : Heap} {lw lw' : Nat}, evDraw P E Φ ops l recs ms env h lw = some (env', h', lw') →
    lw' ≤ lw ∧ h.length ≤ h'.length ∧ ∀ id, id < lw' → id < h.length → h'[id]? = h[id]? := by
  intro l
  induction l with
  | nil =>
    intro recs ms env env' h h' lw lw' e
    simp only [evDraw, Option.some.injEq, Prod.mk.injEq] at e
    obtain ⟨rfl, rfl, rfl⟩ := e
    exact ⟨Nat.le_refl _, Nat.le_refl _, fun _ _ _ => rfl⟩
  | cons o l ih =>
    intro recs ms env env' h h' lw lw' e
    simp only [evDraw] at e
    split at e
    · split at e
      · split at e
        · rename_i v h1 lw1 eff hst
          split at e
          · obtain ⟨g1, g2, g3⟩ := ih e
            obtain ⟨k1, k2⟩ := stepOp_low hΦ hst
            have k3 := stepOp_len hΦ hst
            exact ⟨Nat.le_trans g1 k1, Nat.le_trans k3 g2, fun id hl hid => (g3 id hl (by omega)).trans (k2 id (by omega) hid)⟩
          · cases e
        · cases e
      · split at e
        · exact ih e
        · cases e
      · cases e
    · cases e
end Go.Proofs.YtgcdpdkccaabcaaGreat.Ev
