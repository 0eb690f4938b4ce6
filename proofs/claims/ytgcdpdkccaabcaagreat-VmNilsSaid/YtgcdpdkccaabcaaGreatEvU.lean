/- A call that is known at an empty heap is known at every heap. Conditions: none (definitions and lemmas). -/
import Derived.Test.YtgcdpdkccaabcaaGreatEvT
namespace Go.Proofs.YtgcdpdkccaabcaaGreat.Ev
open Go
set_option linter.unusedVariables false
set_option linter.unusedSimpArgs false
set_option linter.unusedSectionVars false

/-! ### values that hang on no block -/
def MLe (L L' : LC) : Prop := ∀ b c, L.m b = some c → L'.m b = some c
def Im (x : AV) : Prop := ∀ L L' v, MLe L L' → RV L x v → RV L' x v
def Ims (xs : List AV) : Prop := ∀ x ∈ xs, Im x
theorem Ims.rvs {L L' : LC} (hm : MLe L L') : ∀ {xs : List AV} {vs : List Value}, Ims xs → RVs L xs vs → RVs L' xs vs
  | [], [], _, _ => .nil
  | x :: xs, v :: vs, hi, h => by
    simp only [RVs] at h ⊢
    exact ⟨hi x (by simp) L L' v hm h.1, Ims.rvs hm (fun y hy => hi y (by simp [hy])) h.2⟩
  | [], _ :: _, _, h => by simp [RVs] at h
  | _ :: _, [], _, h => by simp [RVs] at h
theorem Im.int {k : IntKind} {i : Int} : Im (.int k i) := fun _ _ _ _ h => by simpa [RV] using h
theorem Im.str {s : ByteArray} : Im (.str s) := fun _ _ _ _ h => by simpa [RV] using h
theorem Im.bool {b : Bool} : Im (.bool b) := fun _ _ _ _ h => by simpa [RV] using h
theorem Im.nils : Im .nils := fun _ _ _ _ h => by simpa [RV] using h
theorem Im.nilp : Im .nilp := fun _ _ _ _ h => by simpa [RV] using h
theorem Im.any : Im .any := fun _ _ _ _ h => by simp [RV]
theorem Im.vsl {xs : List AV} {n : Nat} {c : Option Nat} (hi : Ims xs) : Im (.vsl xs n c) := fun L L' v hm h => by
  simp only [RV] at h ⊢
  obtain ⟨a, c, ev, h1, h2, hx⟩ := h
  refine ⟨a, c, ev, h1, h2, hx.imp (fun x => x) ?_⟩
  rintro ⟨cs, h3, h4, h5⟩
  exact ⟨cs, hm _ _ h3, h4, hi.rvs hm h5⟩
theorem Im.vp {xs : List AV} (hi : Ims xs) : Im (.vp xs) := fun L L' v hm h => by
  simp only [RV] at h ⊢
  obtain ⟨b, o, c, h1, h2, h3⟩ := h
  exact ⟨b, o, c, hm _ _ h1, h2, hi.rvs hm h3⟩
theorem Im.agg {xs : List AV} (hi : Ims xs) : Im (.agg xs) := fun L L' v hm h => by
  simp only [RV] at h ⊢
  obtain ⟨vs, h1, h2⟩ := h
  exact ⟨vs, h1, hi.rvs hm h2⟩
theorem Im.tup {xs : List AV} (hi : Ims xs) : Im (.tup xs) := fun L L' v hm h => by
  simp only [RV] at h ⊢
  obtain ⟨vs, h1, h2⟩ := h
  exact ⟨vs, h1, hi.rvs hm h2⟩
theorem Im.fn {f : FuncId} {a b : List AV} (ha : Ims a) (hb : Ims b) : Im (.fn f a b) := fun L L' v hm h => by
  simp only [RV] at h ⊢
  obtain ⟨v1, v2, e, h1, h2⟩ := h
  exact ⟨v1, v2, e, ha.rvs hm h1, hb.rvs hm h2⟩
theorem Ims.nil : Ims [] := fun _ h => by cases h
theorem Ims.cons {x : AV} {xs : List AV} (h : Im x) (hs : Ims xs) : Ims (x :: xs) := fun y hy => by
  rcases List.mem_cons.1 hy with rfl | hy
  · exact h
  · exact hs y hy
theorem Ims.append {xs ys : List AV} (h : Ims xs) (k : Ims ys) : Ims (xs ++ ys) := fun y hy => (List.mem_append.1 hy).elim (h y) (k y)
theorem Ims.encL {α : Type} {enc : α → List AV} (h : ∀ x, Ims (enc x)) (l : List α) : Ims (encL enc l) := by
  intro x hx
  obtain ⟨y, _, hy⟩ := List.mem_flatMap.1 hx
  exact h y x hy
theorem Im.encS {α : Type} {enc : α → List AV} (h : ∀ x, Ims (enc x)) (o : Option (List α)) : Im (encS enc o) := by
  cases o with
  | none => exact .nils
  | some l => exact .vsl (Ims.encL h l)

theorem OrcAt.lift {P : Program} {f : FuncId} {args : List AV} {r : AV} (k : OrcAt P f args [] r [] 0) (ha : Ims args) (hr : Im r) (h : Heap) : OrcAt P f args h r h h.length := by
  refine ⟨k.enters, ?_, fun _ _ _ => rfl, Nat.le_refl _⟩
  intro L w vs s hv
  have se : SatH ⟨L.m, fun _ => none, fun _ => False⟩ [] w := ⟨s.imm, fun _ _ e => (by cases e), fun _ _ e => (by cases e), fun _ _ e => (by cases e), fun _ _ e => (by cases e), fun _ _ _ e => (by cases e), fun _ _ _ _ e => (by cases e), fun _ d => d.elim, fun _ d => d.elim⟩
  refine (k.sound _ w vs se (ha.rvs (L := L) (L' := ⟨L.m, fun _ => none, fun _ => False⟩) (fun _ _ e => e) hv)).mono ?_
  rintro e w' ⟨r0, h1, L', v, ⟨rfl, rfl⟩, rfl, hrv, st, kp⟩
  have keep : ∀ id p, L.ρ id = some p → w'.heap[p.b]? = w.heap[p.b]? := fun id p e => st.keep p.b (s.big id p e) fun _ _ e => (by cases e)
  have hle : LE L ⟨L'.m, L.ρ, L.dead⟩ := ⟨fun b c e => st.le.m b c e, fun _ _ e => .inl e, fun _ d => d⟩
  have newm : ∀ b c, L'.m b = some c → L.m b = some c ∨ w.heap.size ≤ b := fun b c e => by
    rcases st.newm b c e with e | e | ⟨_, _, e, _⟩
    · exact .inl e
    · exact .inr e
    · cases e
  refine ⟨r0, h, ⟨L'.m, L.ρ, L.dead⟩, v, ⟨rfl, rfl⟩, rfl, hr L' ⟨L'.m, L.ρ, L.dead⟩ _ (fun _ _ e => e) hrv, ⟨hle, st.os, st.tape, st.output, st.size, fun b hb _ => st.keep b hb fun _ _ e => (by cases e), fun _ _ e => .inl e, Nat.le_refl _, fun b c e => (newm b c e).imp (fun x => x) .inl, fun _ d => .inl d, ?_⟩, ⟨fun id p _ e => ⟨e, keep id p e⟩⟩⟩
  refine ⟨st.sat.imm, s.lt, fun id p e => Nat.lt_of_lt_of_le (s.big id p e) st.size, fun id p e => ?_, s.alive, fun id p _ e => BlkR.mono hle (keep id p e) (s.blk id p trivial e), s.inj, s.dead_lt, s.dead⟩
  cases hm : L'.m p.b with
  | none => rfl
  | some c =>
    rcases newm _ _ hm with q | q
    · rw [s.not_m id p e] at q; cases q
    · have := s.big id p e; omega

/-! ### calls in a walk -/
open Classical in
/-- One call that is known at every heap. -/
noncomputable def pureOrc (f : FuncId) (args : List AV) (r : AV) : Orc := fun f' args' h => if f' = f ∧ args' = args then some (r, h, h.length) else none
theorem pureOrc_ok {P : Program} {f : FuncId} {args : List AV} {r : AV} (k : OrcAt P f args [] r [] 0) (ha : Ims args) (hr : Im r) : OrcOk P (pureOrc f args r) := by
  intro f0 args0 h0 r0 h0' lw0 e
  unfold pureOrc at e
  split at e
  · rename_i hc
    obtain ⟨rfl, rfl⟩ := hc
    cases e
    exact k.lift ha hr _
  · cases e
/-- A call without captured variables. -/
def hCall (n : Nat) (f : FuncId) (args : List AV) (r : AV) : Hint := { vals := .fn f [] [] :: args, len := n, v := r, lw := fun lw => min lw n, eff := ⟨.none, true, none⟩ }
theorem good_call {P : Program} {E : Eqs} {f : FuncId} {args : List AV} {r : AV} {n : Nat} {c : Call} {g : Operand} {xs : List Operand} (hc : c.callee = .value g) (hxs : c.args.toList = xs) : Hint.Good P E (pureOrc f args r) (hCall n f args r) (.call c) := by
  intro env h lw hv _ hn _
  have hop : (Op.call c).operands.toList = g :: xs := by simp [Op.operands, Call.operands, hc, hxs]
  rw [hop] at hv
  simp only [hCall, List.map_cons, List.cons.injEq] at hv
  have hn' : h.length = n := hn
  have hcal : calleeA env c = some (f, args) := by
    simp only [calleeA, hc, hv.1, hxs, List.nil_append, List.append_nil, hv.2]
  have hb : isBuiltin c = false := by simp [isBuiltin, hc]
  rw [step_call (q := (r, h, h.length)) hb hcal (by simp [pureOrc])]
  simp [hCall, hn', callW]
end Go.Proofs.YtgcdpdkccaabcaaGreat.Ev
