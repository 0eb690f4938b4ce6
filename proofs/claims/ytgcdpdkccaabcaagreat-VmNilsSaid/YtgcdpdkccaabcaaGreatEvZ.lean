/- Walks at data that is known whole: the kernel's evaluation of pieces, states made plain by a check. Conditions: none (definitions and lemmas). -/
import Derived.Test.YtgcdpdkccaabcaaGreatEvY
namespace Go.Proofs.YtgcdpdkccaabcaaGreat.Ev
open Go
set_option linter.unusedVariables false
set_option linter.unusedSimpArgs false
set_option linter.unusedSectionVars false
def eqOpt (a b : Option Nat) : Bool := match a, b with | none, none => true | some x, some y => x == y | _, _ => false
theorem eqOpt_eq {a b : Option Nat} (h : eqOpt a b = true) : a = b := by
  unfold eqOpt at h
  split at h
  · rfl
  · simp only [beq_iff_eq] at h; rw [h]
  · cases h
def eqKind (a b : IntKind) : Bool := decide (a = b)
mutual
/-- Is y what x is made plain to? -/
def frzC (h : Heap) (σ : List Nat) : Nat → AV → AV → Bool
  | 0, _, _ => false
  | n + 1, x, y => match x, y with
    | _, .any => true
    | .bool a, .bool b => a == b
    | .int k i, .int k' j => decide (k = k') && i == j
    | .str a, .str b => decide (a.data.toList = b.data.toList)
    | .nilp, .nilp | .nils, .nils | .nilm, .nilm | .nilf, .nilf | .nili, .nili => true
    | .ptr id off, .ptr j off' => off == off' && eqOpt σ[j]? (some id)
    | .ptr id off, .vp ys => !σ.contains id && (match h[id]? with | some (.cells cs _) => frzL h σ n ((cs.drop off).take ys.length) ys | _ => false)
    | .sl id off len lo ex es, .sl j off' len' lo' ex' es' => off == off' && eqOpt σ[j]? (some id) && len == len' && lo == lo' && ex == ex' && es == es' && decide (len ≤ lo)
    | .sl id off len lo ex es, .vsl ys len' cap => len == len' && eqOpt cap none && !σ.contains id && (match h[id]? with | some (.cells cs _) => frzL h σ n ((cs.drop off).take ys.length) ys | _ => false)
    | .mp id, .mp j => eqOpt σ[j]? (some id)
    | .vp xs, .vp ys => frzL h σ n (xs.take ys.length) ys
    | .vsl xs len cap, .vsl ys len' cap' => len == len' && eqOpt cap' none && frzL h σ n (xs.take ys.length) ys
    | .fn f a b, .fn f' a' b' => f == f' && frzL h σ n a a' && frzL h σ n b b'
    | .iface t x, .iface t' y => t == t' && frzC h σ n x y
    | .agg xs, .agg ys => frzL h σ n xs ys
    | .tup xs, .tup ys => frzL h σ n xs ys
    | _, _ => false
def frzL (h : Heap) (σ : List Nat) : Nat → List AV → List AV → Bool
  | 0, _, _ => false
  | n + 1, xs, ys => match xs, ys with
    | [], [] => true
    | x :: xs, y :: ys => frzC h σ n x y && frzL h σ n xs ys
    | _, _ => false
end
theorem frz_ok (h : Heap) (σ : List Nat) : ∀ (n : Nat), (∀ x y, frzC h σ n x y = true → Frz h 0 σ x y) ∧ (∀ xs ys, frzL h σ n xs ys = true → Frzs h 0 σ xs ys) := by
  intro n
  induction n with
  | zero => exact ⟨fun x y e => by simp [frzC] at e, fun xs ys e => by simp [frzL] at e⟩
  | succ n ih =>
    obtain ⟨ih1, ih2⟩ := ih
    refine ⟨fun x y e => ?_, fun xs ys e => ?_⟩
    · unfold frzC at e
      split at e
      · exact .any _
      · simp only [beq_iff_eq] at e; subst e; exact .bool _
      · simp only [Bool.and_eq_true, decide_eq_true_eq, beq_iff_eq] at e; obtain ⟨rfl, rfl⟩ := e; exact .int _ _
      · rename_i a b
        have e1 : a.data.toList = b.data.toList := by simpa using e
        have : a = b := by
          cases a; cases b
          simp only at e1
          rw [Array.toList_inj.1 e1]
        subst this; exact .str _
      · exact .nilp
      · exact .nils
      · exact .nilm
      · exact .nilf
      · exact .nili
      · rename_i id off j off'
        simp only [Bool.and_eq_true, beq_iff_eq] at e
        obtain ⟨rfl, e2⟩ := e
        have := Frz.ptrKeep (h := h) (n := 0) (off := off) (eqOpt_eq e2)
        rw [Nat.zero_add] at this
        exact this
      · rename_i id off ys
        simp only [Bool.and_eq_true, Bool.not_eq_true'] at e
        obtain ⟨e1, e2⟩ := e
        split at e2
        · rename_i cs t hb
          exact .ptrFrz (k := ys.length) (Nat.zero_le _) (fun k => by rw [List.contains_iff_mem.2 k] at e1; cases e1) hb (ih2 _ _ e2)
        · cases e2
      · rename_i id off len lo ex es j off' len' lo' ex' es'
        simp only [Bool.and_eq_true, beq_iff_eq, decide_eq_true_eq] at e
        obtain ⟨⟨⟨⟨⟨⟨rfl, e2⟩, rfl⟩, rfl⟩, rfl⟩, rfl⟩, e7⟩ := e
        have := Frz.slKeep (h := h) (n := 0) (off := off) (es := es) (lo := lo) (len := len) (ex := ex) (ex' := ex) (eqOpt_eq e2) (Nat.le_refl lo) e7 (fun k => ⟨k, rfl⟩)
        rw [Nat.zero_add] at this
        exact this
      · rename_i id off len lo ex es ys len' cap
        simp only [Bool.and_eq_true, beq_iff_eq, Bool.not_eq_true'] at e
        obtain ⟨⟨⟨rfl, e2⟩, e3⟩, e4⟩ := e
        obtain rfl := eqOpt_eq e2
        split at e4
        · rename_i cs t hb
          exact .slFrz (k := ys.length) (Nat.zero_le _) (fun k => by rw [List.contains_iff_mem.2 k] at e3; cases e3) hb (ih2 _ _ e4) (fun _ h => by cases h)
        · cases e4
      · rename_i id j
        have := Frz.mpKeep (h := h) (n := 0) (eqOpt_eq e)
        rw [Nat.zero_add] at this
        exact this
      · rename_i xs ys
        exact .vp ys.length (ih2 _ _ e)
      · rename_i xs len cap ys len' cap'
        simp only [Bool.and_eq_true, beq_iff_eq] at e
        obtain ⟨⟨rfl, e2⟩, e3⟩ := e
        obtain rfl := eqOpt_eq e2
        exact .vsl ys.length (ih2 _ _ e3) (fun _ h => by cases h)
      · simp only [Bool.and_eq_true, beq_iff_eq] at e
        obtain ⟨⟨rfl, e2⟩, e3⟩ := e
        exact .fn (ih2 _ _ e2) (ih2 _ _ e3)
      · simp only [Bool.and_eq_true, beq_iff_eq] at e
        obtain ⟨rfl, e2⟩ := e
        exact .iface (ih1 _ _ e2)
      · exact .agg (ih2 _ _ e)
      · exact .tup (ih2 _ _ e)
      · cases e
    · unfold frzL at e
      split at e
      · exact .nil
      · simp only [Bool.and_eq_true] at e
        exact .cons (ih1 _ _ e.1) (ih2 _ _ e.2)
      · cases e
def frzBC (h : Heap) (σ : List Nat) (n : Nat) (x y : Blk) : Bool :=
  match x, y with
  | .dead, .dead => true
  | .cells cs e, .cells ys e' => e == e' && frzL h σ n (cs.take ys.length) ys
  | _, _ => false
theorem frzBC_ok {h : Heap} {σ : List Nat} {n : Nat} {x y : Blk} (e : frzBC h σ n x y = true) : FrzB h 0 σ x y := by
  unfold frzBC at e
  split at e
  · exact .dead
  · rename_i cs t ys t'
    simp only [Bool.and_eq_true, beq_iff_eq] at e
    obtain ⟨rfl, e2⟩ := e
    exact .cells ys.length ((frz_ok h σ n).2 _ _ e2)
  · cases e
def keptC (h : Heap) (σ : List Nat) (n : Nat) : List Nat → Heap → Bool
  | [], [] => true
  | id :: s, y :: K => (match h[id]? with | some x => frzBC h σ n x y | none => false) && keptC h σ n s K
  | _, _ => false
theorem keptC_ok {h : Heap} {σ : List Nat} {n : Nat} : ∀ {s : List Nat} {K : Heap}, keptC h σ n s K = true → KeptOk h σ s K
  | [], [], _ => trivial
  | id :: s, y :: K, e => by
    simp only [keptC, Bool.and_eq_true] at e
    obtain ⟨e1, e2⟩ := e
    split at e1
    · rename_i x hx
      exact ⟨.inl ⟨x, hx, frzBC_ok e1⟩, keptC_ok e2⟩
    · cases e1
  | [], _ :: _, e => by simp [keptC] at e
  | _ :: _, [], e => by simp [keptC] at e
def liveC (h : Heap) (σ : List Nat) (n : Nat) (env : List AV) : List (Nat × AV) → Bool
  | [] => true
  | p :: l => (match env[p.1]? with | some x => frzC h σ n x p.2 | none => false) && liveC h σ n env l
theorem liveC_ok {h : Heap} {σ : List Nat} {n : Nat} {env : List AV} : ∀ {l : List (Nat × AV)}, liveC h σ n env l = true → LiveOk h 0 σ env l
  | [], _ => trivial
  | p :: l, e => by
    simp only [liveC, Bool.and_eq_true] at e
    obtain ⟨e1, e2⟩ := e
    split at e1
    · rename_i x hx
      exact ⟨⟨x, hx, (frz_ok h σ n).1 _ _ e1⟩, liveC_ok e2⟩
    · cases e1
def nodupC : List Nat → Bool
  | [] => true
  | a :: l => !l.contains a && nodupC l
theorem nodupC_ok : ∀ {l : List Nat}, nodupC l = true → l.Nodup
  | [], _ => List.nodup_nil
  | a :: l, e => by
    simp only [nodupC, Bool.and_eq_true, Bool.not_eq_true'] at e
    exact List.nodup_cons.2 ⟨(fun k => by rw [List.contains_iff_mem.2 k] at e; cases e.1), nodupC_ok e.2⟩
def plnC (σ : List Nat) (n : Nat) (s : St) (k : Nat) (l : List (Nat × AV)) (K : Heap) (lw : Nat) : Bool := s.env.length == k && lw == s.lw && nodupC σ && keptC s.h σ n σ K && liveC s.h σ n s.env l
/-- The state made plain, by a check. -/
theorem Pln.chk (σ : List Nat) (n : Nat) {s : St} {k : Nat} {l : List (Nat × AV)} {K : Heap} {lw : Nat} (e : plnC σ n s k l K lw = true) : Pln [] s ⟨sp k l, K, lw⟩ := by
  simp only [plnC, Bool.and_eq_true, beq_iff_eq] at e
  obtain ⟨⟨⟨⟨e1, e2⟩, e3⟩, e4⟩, e5⟩ := e
  exact Pln.of σ e1 e2 (nodupC_ok e3) (keptC_ok e4) (liveC_ok e5)
/-! ### pieces by the kernel's evaluation -/
def outSt (r : Option (Ex × St)) : St := match r with | some (_, s) => s | none => ⟨[], [], 0⟩
def isN (r : Option (Ex × St)) : Bool := match r with | some (.normal, _) => true | _ => false
def isR (r : Option (Ex × St)) : Bool := match r with | some (.ret, _) => true | _ => false
theorem isN_eq {r : Option (Ex × St)} (h : isN r = true) : r = some (.normal, outSt r) := by
  unfold isN at h
  split at h
  · rfl
  · cases h
theorem isR_eq {r : Option (Ex × St)} (h : isR r = true) : r = some (.ret, outSt r) := by
  unfold isR at h
  split at h
  · rfl
  · cases h
section
variable {P : Program} {E : Eqs} {Φ : Orc} {h0 : Heap}
theorem CodeB.runN (hE : EqsOk P E) (hΦ : OrcOk P Φ) (hmix : P.follows .mixedOrders = true) (n : Nat) {c : Code} {s : St} {R : Ex → St → Prop} (e : isN (evC P E Φ n c s) = true) (h : R .normal (outSt (evC P E Φ n c s))) : CodeB P h0 c s R := .run hE hΦ hmix (isN_eq e) h
theorem CodeB.runR (hE : EqsOk P E) (hΦ : OrcOk P Φ) (hmix : P.follows .mixedOrders = true) (n : Nat) {c : Code} {s : St} {R : Ex → St → Prop} (e : isR (evC P E Φ n c s) = true) (h : R .ret (outSt (evC P E Φ n c s))) : CodeB P h0 c s R := .run hE hΦ hmix (isR_eq e) h
/-- So many rounds of a loop. -/
def RoundsB (P : Program) (h0 : Heap) (c : Code) (R : Ex → St → Prop) : Nat → St → Prop
  | 0, _ => False
  | n + 1, s => CodeB P h0 c s fun x s' => match x with | .normal => RoundsB P h0 c R n s' | x => R x s'
theorem CodeB.loopU (n : Nat) {c : Code} {s : St} {R : Ex → St → Prop} (h : RoundsB P h0 c R n s) : CodeB P h0 (.loop c) s R := by
  intro L0 w0 L a w Q h1 h2 hQ
  refine wp_loop_rounds n ?_
  have key : ∀ (n : Nat) (s : St) (L : LC) (a : Act) (w : World), RoundsB P h0 c R n s → At L0 h0 w0 s L a w →
      (∀ x s' a' w' L', R x s' → At L0 h0 w0 s' L' a' w' → a'.defers = a.defers → Q x.real a' w') → Code.rounds P c Q n a w := by
    intro n
    induction n with
    | zero => intro s L a w hr; exact hr.elim
    | succ n ih =>
      intro s L a w hr h2 hQ
      rw [rounds_succ]
      refine hr L0 w0 L a w _ h1 h2 fun x s' a' w' L' r t hd => ?_
      cases x with
      | normal => exact ih s' L' a' w' r t fun x2 s2 a2 w2 L2 r2 t2 hd2 => hQ x2 s2 a2 w2 L2 r2 t2 (hd2.trans hd)
      | exit id => exact hQ (.exit id) s' a' w' L' r t hd
      | ret => exact hQ .ret s' a' w' L' r t hd
  exact key n s L a w h h2 hQ
end
end Go.Proofs.YtgcdpdkccaabcaaGreat.Ev
