/- Abstract values and heaps, and how they stand to the model's values and worlds. Conditions: none (definitions and lemmas). -/
import Derived.Tactics
namespace Go.Proofs.YtgcdpdkccaabcaaGreat.Ev
open Go
set_option linter.unusedVariables false
set_option linter.unusedSimpArgs false
set_option linter.unusedSectionVars false

/-- Abstract values. 'vp', 'vsl': into memory that never changes, with what is read there. -/
inductive AV where
  | any
  | bool (b : Bool)
  | int (k : IntKind) (n : Int)
  | str (s : ByteArray)
  | nilp
  | ptr (id off : Nat)
  | vp (xs : List AV)
  | nils
  | sl (id off len lo : Nat) (ex : Bool) (es : Nat)
  | vsl (xs : List AV) (n : Nat) (cap : Option Nat)
  | nilm
  | mp (id : Nat)
  | fn (f : FuncId) (first captured : List AV)
  | nilf
  | nili
  | iface (t : TypeId) (v : AV)
  | agg (cs : List AV)
  | tup (vs : List AV)
  deriving Inhabited

inductive Blk where
  | cells (cs : List AV) (e : TypeId)
  | mp (es : List (AV × AV))
  | dead
  deriving Inhabited

abbrev Heap := List Blk

/-- What ties abstract to real: memory that never changes; where a block lies; which blocks may not be touched any more. -/
structure Pl where
  b : Nat
  o : Nat
  n : Nat
structure LC where
  m : Nat → Option (List Value)
  ρ : Nat → Option Pl
  dead : Nat → Prop

mutual
def RV (L : LC) : AV → Value → Prop
  | .any, _ => True
  | .bool b, v => v = .bool b
  | .int k n, v => v = .int k n
  | .str s, v => v = .string s
  | .nilp, v => v = .pointer none
  | .ptr id off, v => ∃ p, (L.dead id ∨ L.ρ id = some p) ∧ v = .pointer (some ⟨p.b, p.o + off, none⟩)
  | .vp xs, v => ∃ b o c, L.m b = some c ∧ v = .pointer (some ⟨b, o, none⟩) ∧ RVs L xs ((c.drop o).take xs.length)
  | .nils, v => v = .slice none 0 0
  | .sl id off len lo ex es, v => ∃ p c, (L.dead id ∨ L.ρ id = some p) ∧ v = .slice (some ⟨p.b, p.o + off, none⟩) len c ∧ lo ≤ c ∧ len ≤ lo ∧ (ex = true → c = lo) ∧ p.o + off + c * es ≤ p.n
  | .vsl xs n cap, v => ∃ a c, v = .slice (some a) n c ∧ n ≤ c ∧ (∀ k, cap = some k → c = k) ∧
      ((n = 0 ∧ xs = []) ∨ ∃ cs, L.m a.block = some cs ∧ a.spot = none ∧ RVs L xs ((cs.drop a.off).take xs.length))
  | .nilm, v => v = .map none
  | .mp id, v => ∃ p, (L.dead id ∨ L.ρ id = some p) ∧ v = .map (some p.b)
  | .fn f first captured, v => ∃ vs1 vs2, v = .func (.func f) vs1 vs2 ∧ RVs L first vs1.toList ∧ RVs L captured vs2.toList
  | .nilf, v => v = .nilFunc
  | .nili, v => v = .nilIface
  | .iface t x, v => ∃ y, v = .iface t y ∧ RV L x y
  | .agg cs, v => ∃ vs, v = .agg vs ∧ RVs L cs vs.toList
  | .tup cs, v => ∃ vs, v = .tuple vs ∧ RVs L cs vs.toList
def RVs (L : LC) : List AV → List Value → Prop
  | [], [] => True
  | x :: xs, y :: ys => RV L x y ∧ RVs L xs ys
  | [], _ :: _ => False
  | _ :: _, [] => False
end

/-- More is known. -/
structure LE (L L' : LC) : Prop where
  m : ∀ b c, L.m b = some c → L'.m b = some c
  ρ : ∀ id x, L.ρ id = some x → L'.ρ id = some x ∨ L'.dead id
  dead : ∀ id, L.dead id → L'.dead id

theorem LE.refl (L : LC) : LE L L := ⟨fun _ _ h => h, fun _ _ h => .inl h, fun _ h => h⟩
theorem LE.trans {a b c : LC} (h : LE a b) (k : LE b c) : LE a c :=
  ⟨fun x y e => k.m x y (h.m x y e), fun x y e => (h.ρ x y e).elim (fun e => k.ρ x y e) (fun d => .inr (k.dead x d)), fun x e => k.dead x (h.dead x e)⟩

theorem LE.place {L L' : LC} (h : LE L L') {id : Nat} {p : Pl} (e : L.dead id ∨ L.ρ id = some p) : L'.dead id ∨ L'.ρ id = some p := by
  rcases e with e | e
  · exact .inl (h.dead _ e)
  · exact (h.ρ _ _ e).elim .inr .inl

mutual
theorem RV.mono {L L' : LC} (h : LE L L') : ∀ (x : AV) (v : Value), RV L x v → RV L' x v
  | .any, _, _ => by simp [RV]
  | .bool b, v, e => by simpa [RV] using e
  | .int k n, v, e => by simpa [RV] using e
  | .str s, v, e => by simpa [RV] using e
  | .nilp, v, e => by simpa [RV] using e
  | .ptr id off, v, e => by
    simp only [RV] at e ⊢
    obtain ⟨p, e, ev⟩ := e
    exact ⟨p, h.place e, ev⟩
  | .vp xs, v, e => by
    simp only [RV] at e ⊢
    obtain ⟨b, o, c, hm, ev, hx⟩ := e
    exact ⟨b, o, c, h.m _ _ hm, ev, RVs.mono h xs _ hx⟩
  | .nils, v, e => by simpa [RV] using e
  | .sl id off len lo ex es, v, e => by
    simp only [RV] at e ⊢
    obtain ⟨p, c, e, ev⟩ := e
    exact ⟨p, c, h.place e, ev⟩
  | .vsl xs n cap, v, e => by
    simp only [RV] at e ⊢
    obtain ⟨a, c, ev, hn, hc, hx⟩ := e
    refine ⟨a, c, ev, hn, hc, ?_⟩
    rcases hx with hx | ⟨cs, hm, hs, hx⟩
    · exact .inl hx
    · exact .inr ⟨cs, h.m _ _ hm, hs, RVs.mono h xs _ hx⟩
  | .nilm, v, e => by simpa [RV] using e
  | .mp id, v, e => by
    simp only [RV] at e ⊢
    obtain ⟨p, e, ev⟩ := e
    exact ⟨p, h.place e, ev⟩
  | .fn f first captured, v, e => by
    simp only [RV] at e ⊢
    obtain ⟨v1, v2, ev, h1, h2⟩ := e
    exact ⟨v1, v2, ev, RVs.mono h _ _ h1, RVs.mono h _ _ h2⟩
  | .nilf, v, e => by simpa [RV] using e
  | .nili, v, e => by simpa [RV] using e
  | .iface t x, v, e => by
    simp only [RV] at e ⊢
    obtain ⟨y, ev, hy⟩ := e
    exact ⟨y, ev, RV.mono h x y hy⟩
  | .agg cs, v, e => by
    simp only [RV] at e ⊢
    obtain ⟨vs, ev, hv⟩ := e
    exact ⟨vs, ev, RVs.mono h cs _ hv⟩
  | .tup cs, v, e => by
    simp only [RV] at e ⊢
    obtain ⟨vs, ev, hv⟩ := e
    exact ⟨vs, ev, RVs.mono h cs _ hv⟩
theorem RVs.mono {L L' : LC} (h : LE L L') : ∀ (xs : List AV) (vs : List Value), RVs L xs vs → RVs L' xs vs
  | [], [], _ => by simp [RVs]
  | x :: xs, v :: vs, e => by
    simp only [RVs] at e ⊢
    exact ⟨RV.mono h x v e.1, RVs.mono h xs vs e.2⟩
  | [], _ :: _, e => by simp [RVs] at e
  | _ :: _, [], e => by simp [RVs] at e
end

section lists
variable {L : LC}
theorem RVs.length : ∀ {xs : List AV} {vs : List Value}, RVs L xs vs → xs.length = vs.length
  | [], [], _ => rfl
  | _ :: _, _ :: _, h => by simp only [RVs] at h; simp [RVs.length h.2]
  | [], _ :: _, h => by simp [RVs] at h
  | _ :: _, [], h => by simp [RVs] at h
theorem RVs.size {xs : List AV} {v : Array Value} (h : RVs L xs v.toList) : xs.length = v.size := h.length.trans Array.length_toList
theorem RVs.nil : RVs L [] [] := by simp [RVs]
theorem RVs.cons {x : AV} {v : Value} {xs : List AV} {vs : List Value} (h : RV L x v) (hs : RVs L xs vs) : RVs L (x :: xs) (v :: vs) := by
  simp only [RVs]; exact ⟨h, hs⟩
theorem RVs.get : ∀ {xs : List AV} {vs : List Value}, RVs L xs vs → ∀ {i : Nat} {x : AV} {v : Value}, xs[i]? = some x → vs[i]? = some v → RV L x v
  | [], _, _, _, _, _, hx, _ => by simp at hx
  | _ :: _, [], h, _, _, _, _, _ => by simp [RVs] at h
  | x :: xs, y :: ys, h, 0, _, _, hx, hv => by
    simp only [RVs] at h
    simp only [List.getElem?_cons_zero, Option.some.injEq] at hx hv
    subst hx; subst hv; exact h.1
  | x :: xs, y :: ys, h, i + 1, _, _, hx, hv => by
    simp only [RVs] at h
    exact RVs.get h.2 (by simpa using hx) (by simpa using hv)
theorem RVs.get_some {xs : List AV} {vs : List Value} (h : RVs L xs vs) {i : Nat} {x : AV} (hx : xs[i]? = some x) : ∃ v, vs[i]? = some v ∧ RV L x v := by
  have hi : i < vs.length := by
    rw [← h.length]
    exact (List.getElem?_eq_some_iff.1 hx).1
  exact ⟨vs[i], List.getElem?_eq_getElem hi, h.get hx (List.getElem?_eq_getElem hi)⟩
theorem RVs.of_get {xs : List AV} {vs : List Value} (hl : xs.length = vs.length) (h : ∀ (i : Nat) (x : AV) (v : Value), xs[i]? = some x → vs[i]? = some v → RV L x v) : RVs L xs vs := by
  induction xs generalizing vs with
  | nil => cases vs with
    | nil => exact .nil
    | cons _ _ => simp at hl
  | cons x xs ih => cases vs with
    | nil => simp at hl
    | cons v vs =>
      exact .cons (h 0 x v (by simp) (by simp)) (ih (by simpa using hl) fun i y w hy hw => h (i + 1) y w (by simpa using hy) (by simpa using hw))
theorem RVs.append {xs ys : List AV} {vs ws : List Value} (h : RVs L xs vs) (k : RVs L ys ws) : RVs L (xs ++ ys) (vs ++ ws) := by
  induction xs generalizing vs with
  | nil => cases vs with
    | nil => simpa using k
    | cons _ _ => simp [RVs] at h
  | cons x xs ih => cases vs with
    | nil => simp [RVs] at h
    | cons v vs => simp only [RVs] at h; exact .cons h.1 (ih h.2)
theorem RVs.take {xs : List AV} {vs : List Value} (h : RVs L xs vs) (n : Nat) : RVs L (xs.take n) (vs.take n) := by
  induction xs generalizing vs n with
  | nil => cases vs with
    | nil => simp [RVs]
    | cons _ _ => simp [RVs] at h
  | cons x xs ih => cases vs with
    | nil => simp [RVs] at h
    | cons v vs =>
      simp only [RVs] at h
      cases n with
      | zero => simp [RVs]
      | succ n => exact .cons h.1 (ih h.2 n)
theorem RVs.drop {xs : List AV} {vs : List Value} (h : RVs L xs vs) (n : Nat) : RVs L (xs.drop n) (vs.drop n) := by
  induction xs generalizing vs n with
  | nil => cases vs with
    | nil => simp [RVs]
    | cons _ _ => simp [RVs] at h
  | cons x xs ih => cases vs with
    | nil => simp [RVs] at h
    | cons v vs =>
      simp only [RVs] at h
      cases n with
      | zero => exact .cons h.1 h.2
      | succ n => exact ih h.2 n
theorem RVs.set {xs : List AV} {vs : List Value} (h : RVs L xs vs) (i : Nat) {x : AV} {v : Value} (hv : RV L x v) : RVs L (xs.set i x) (vs.set i v) := by
  induction xs generalizing vs i with
  | nil => cases vs with
    | nil => simp [RVs]
    | cons _ _ => simp [RVs] at h
  | cons y xs ih => cases vs with
    | nil => simp [RVs] at h
    | cons w vs =>
      simp only [RVs] at h
      cases i with
      | zero => exact .cons hv h.2
      | succ i => exact .cons h.1 (ih h.2 i)
theorem RVs.replicate {x : AV} {v : Value} (h : RV L x v) (n : Nat) : RVs L (List.replicate n x) (List.replicate n v) := by
  induction n with
  | zero => exact .nil
  | succ n ih => exact .cons h ih
theorem RVs.map {α : Type} {f : α → AV} {g : α → Value} (l : List α) (h : ∀ x ∈ l, RV L (f x) (g x)) : RVs L (l.map f) (l.map g) := by
  induction l with
  | nil => exact .nil
  | cons x l ih => exact .cons (h x (by simp)) (ih fun y hy => h y (by simp [hy]))
theorem RVs.snoc {xs : List AV} {vs : List Value} {x : AV} {v : Value} (h : RVs L xs vs) (hv : RV L x v) : RVs L (xs ++ [x]) (vs ++ [v]) := h.append (.cons hv .nil)
end lists

/-! ### the heap -/
def BlkR (L : LC) (w : World) (p : Pl) : Option Blk → Prop
  | some (.cells cs e) => ∃ c, w.heap[p.b]? = some (.cells c e (0, 0)) ∧ c.size = p.n ∧ p.o + cs.length ≤ p.n ∧ RVs L cs ((c.toList.drop p.o).take cs.length)
  | some (.mp es) => ∃ es' clk, w.heap[p.b]? = some (.map es' clk) ∧ RVs L (es.map (·.1)) (es'.toList.map (·.key)) ∧ RVs L (es.map (·.2)) (es'.toList.map (·.val))
  | _ => False

/-- What is claimed of the blocks of 'fp' alone. -/
structure SatOn (fp : Nat → Prop) (L : LC) (h : Heap) (w : World) : Prop where
  imm : ∀ b c, L.m b = some c → ∃ cs e fr, w.heap[b]? = some (.cells cs e fr) ∧ cs.toList = c
  lt : ∀ id p, L.ρ id = some p → id < h.length
  big : ∀ id p, L.ρ id = some p → p.b < w.heap.size
  not_m : ∀ id p, L.ρ id = some p → L.m p.b = none
  alive : ∀ id p, L.ρ id = some p → ¬ L.dead id
  blk : ∀ id p, fp id → L.ρ id = some p → BlkR L w p h[id]?
  inj : ∀ i j p q, L.ρ i = some p → L.ρ j = some q → p.b = q.b → i = j
  dead_lt : ∀ id, L.dead id → id < h.length
  dead : ∀ id, L.dead id → fp id → h[id]? = some .dead

def SatH (L : LC) (h : Heap) (w : World) : Prop := SatOn (fun _ => True) L h w

theorem BlkR.mono {L L' : LC} (hL : LE L L') {x : Option Blk} {w w' : World} {p : Pl} (hw : w'.heap[p.b]? = w.heap[p.b]?) (h : BlkR L w p x) : BlkR L' w' p x := by
  match x, h with
  | some (.cells cs e), h =>
    obtain ⟨c, h1, h2, h3, h4⟩ := h
    exact ⟨c, by rw [hw]; exact h1, h2, h3, RVs.mono hL _ _ h4⟩
  | some (.mp es), h =>
    obtain ⟨es', clk, h1, h2, h3⟩ := h
    exact ⟨es', clk, by rw [hw]; exact h1, RVs.mono hL _ _ h2, RVs.mono hL _ _ h3⟩
  | some .dead, h => exact h.elim
  | none, h => exact h.elim

/-- The world beside what may be touched. -/
structure Fr (fp : Nat → Prop) (L : LC) (w w' : World) : Prop where
  os : w'.os = w.os
  tape : w'.tape = w.tape
  output : w'.output = w.output
  size : w.heap.size ≤ w'.heap.size
  keep : ∀ b, b < w.heap.size → (∀ id p, fp id → L.ρ id = some p → p.b ≠ b) → w'.heap[b]? = w.heap[b]?

/-- One step, of what touches 'fp' and makes new blocks. -/
structure Stp (fp : Nat → Prop) (L : LC) (h : Heap) (w : World) (L' : LC) (h' : Heap) (w' : World) : Prop where
  le : LE L L'
  fr : Fr fp L w w'
  len : h.length ≤ h'.length
  same : ∀ id, id < h.length → ¬ fp id → h'[id]? = h[id]?
  keepρ : ∀ id p, L.ρ id = some p → L'.ρ id = some p ∨ (fp id ∧ L'.dead id)
  newρ : ∀ id p, L'.ρ id = some p → L.ρ id = some p ∨ (h.length ≤ id ∧ (w.heap.size ≤ p.b ∨ ∃ i q, fp i ∧ L.ρ i = some q ∧ q.b = p.b))
  newdead : ∀ id, L'.dead id → L.dead id ∨ (fp id ∧ ∃ p, L.ρ id = some p) ∨ h.length ≤ id
  newm : ∀ b c, L'.m b = some c → L.m b = some c ∨ w.heap.size ≤ b ∨ ∃ i q, fp i ∧ L.ρ i = some q ∧ q.b = b
  sat : SatOn (fun id => fp id ∨ h.length ≤ id) L' h' w'

theorem SatOn.weaken {fp fp' : Nat → Prop} {L : LC} {h : Heap} {w : World} (s : SatOn fp L h w) (k : ∀ id, fp' id → fp id) : SatOn fp' L h w :=
  ⟨s.imm, s.lt, s.big, s.not_m, s.alive, fun id p f e => s.blk id p (k id f) e, s.inj, s.dead_lt, fun id d f => s.dead id d (k id f)⟩

theorem lt_of_not_ge' {fp : Nat → Prop} {h : Heap} {id : Nat} (hf : ¬ (fp id ∨ h.length ≤ id)) : id < h.length ∧ ¬ fp id := by
  rcases Nat.lt_or_ge id h.length with k | k
  · exact ⟨k, fun q => hf (.inl q)⟩
  · exact absurd (Or.inr k) hf

/-- A step within a heap that is known whole. -/
theorem SatH.step {fp : Nat → Prop} {L L' : LC} {h h' : Heap} {w w' : World} (s : SatH L h w) (t : Stp fp L h w L' h' w') : SatH L' h' w' := by
  refine ⟨t.sat.imm, t.sat.lt, t.sat.big, t.sat.not_m, t.sat.alive, fun id p _ e => ?_, t.sat.inj, t.sat.dead_lt, fun id d _ => ?_⟩
  · by_cases hf : fp id ∨ h.length ≤ id
    · exact t.sat.blk id p hf e
    · obtain ⟨hlt, hnf⟩ := lt_of_not_ge' hf
      have e0 : L.ρ id = some p := by
        rcases t.newρ id p e with e | ⟨k, _⟩
        · exact e
        · omega
      rw [t.same id hlt hnf]
      refine BlkR.mono t.le (t.fr.keep p.b (s.big _ _ e0) fun i q fi ei hb => ?_) (s.blk id p trivial e0)
      have := s.inj _ _ _ _ ei e0 hb
      exact hnf (this ▸ fi)
  · by_cases hf : fp id ∨ h.length ≤ id
    · exact t.sat.dead id d hf
    · obtain ⟨hlt, hnf⟩ := lt_of_not_ge' hf
      rcases t.newdead id d with d0 | ⟨d0, _⟩ | d0
      · rw [t.same id hlt hnf]; exact s.dead id d0 trivial
      · exact absurd d0 hnf
      · omega

/-- Steps, one behind the other, in a heap known whole: what the whole call may say. -/
structure Stps (L : LC) (h : Heap) (w : World) (L' : LC) (h' : Heap) (w' : World) : Prop where
  le : LE L L'
  os : w'.os = w.os
  tape : w'.tape = w.tape
  output : w'.output = w.output
  size : w.heap.size ≤ w'.heap.size
  keep : ∀ b, b < w.heap.size → (∀ id p, L.ρ id = some p → p.b ≠ b) → w'.heap[b]? = w.heap[b]?
  orig : ∀ id p, L'.ρ id = some p → L.ρ id = some p ∨ (h.length ≤ id ∧ (w.heap.size ≤ p.b ∨ ∃ i q, L.ρ i = some q ∧ q.b = p.b))
  len : h.length ≤ h'.length
  newm : ∀ b c, L'.m b = some c → L.m b = some c ∨ w.heap.size ≤ b ∨ ∃ i q, L.ρ i = some q ∧ q.b = b
  newdead : ∀ id, L'.dead id → L.dead id ∨ (∃ p, L.ρ id = some p) ∨ h.length ≤ id
  sat : SatH L' h' w'

theorem Stps.refl {L : LC} {h : Heap} {w : World} (s : SatH L h w) : Stps L h w L h w :=
  ⟨.refl _, rfl, rfl, rfl, Nat.le_refl _, fun _ _ _ => rfl, fun _ _ e => .inl e, Nat.le_refl _, fun _ _ e => .inl e, fun _ e => .inl e, s⟩
theorem Stps.trans {L1 L2 L3 : LC} {h1 h2 h3 : Heap} {w1 w2 w3 : World} (a : Stps L1 h1 w1 L2 h2 w2) (b : Stps L2 h2 w2 L3 h3 w3) : Stps L1 h1 w1 L3 h3 w3 := by
  refine ⟨a.le.trans b.le, by rw [b.os, a.os], by rw [b.tape, a.tape], by rw [b.output, a.output], Nat.le_trans a.size b.size, fun x hx hn => ?_, fun id p e => ?_, Nat.le_trans a.len b.len, fun x c e => ?_, fun id d => ?_, b.sat⟩
  · rw [b.keep x (Nat.lt_of_lt_of_le hx a.size) fun id p e hb => ?_, a.keep x hx hn]
    rcases a.orig id p e with e | ⟨_, k | ⟨i, q, e, hq⟩⟩
    · exact hn _ _ e hb
    · omega
    · exact hn _ _ e (hq.trans hb)
  · rcases b.orig id p e with e | ⟨hl, k | ⟨i, q, e, hq⟩⟩
    · rcases a.orig id p e with e | ⟨hl, k⟩
      · exact .inl e
      · exact .inr ⟨hl, k⟩
    · exact .inr ⟨Nat.le_trans a.len hl, .inl (Nat.le_trans a.size k)⟩
    · refine .inr ⟨Nat.le_trans a.len hl, ?_⟩
      rcases a.orig i q e with e | ⟨_, k | ⟨j, r, e, hr⟩⟩
      · exact .inr ⟨i, q, e, hq⟩
      · exact .inl (hq ▸ k)
      · exact .inr ⟨j, r, e, hr.trans hq⟩
  · rcases b.newm x c e with e | k | ⟨i, q, e, hq⟩
    · exact a.newm x c e
    · exact .inr (.inl (Nat.le_trans a.size k))
    · rcases a.orig i q e with e | ⟨_, k | ⟨j, r, e, hr⟩⟩
      · exact .inr (.inr ⟨i, q, e, hq⟩)
      · exact .inr (.inl (hq ▸ k))
      · exact .inr (.inr ⟨j, r, e, hr.trans hq⟩)
  · rcases b.newdead id d with d | ⟨p, e⟩ | hl
    · exact a.newdead id d
    · rcases a.orig id p e with e | ⟨hl, _⟩
      · exact .inr (.inl ⟨p, e⟩)
      · exact .inr (.inr hl)
    · exact .inr (.inr (Nat.le_trans a.len hl))
theorem Stp.stps {fp : Nat → Prop} {L L' : LC} {h h' : Heap} {w w' : World} (s : SatH L h w) (t : Stp fp L h w L' h' w') : Stps L h w L' h' w' :=
  ⟨t.le, t.fr.os, t.fr.tape, t.fr.output, t.fr.size, fun b hb hn => t.fr.keep b hb fun id p _ => hn id p,
    fun id p e => (t.newρ id p e).imp (fun x => x) (fun ⟨k, q⟩ => ⟨k, q.imp (fun x => x) fun ⟨i, o', _, e⟩ => ⟨i, o', e⟩⟩), t.len,
    fun b c e => (t.newm b c e).imp (fun x => x) (fun k => k.imp (fun x => x) fun ⟨i, q, _, e⟩ => ⟨i, q, e⟩), fun id d => (t.newdead id d).imp (fun x => x) (fun k => k.imp (fun q => q.2) (fun x => x)), s.step t⟩

/-- Nothing is touched: only tmps. -/
theorem Stp.none {L : LC} {h : Heap} {w : World} {fp0 : Nat → Prop} (s : SatOn fp0 L h w) (fp : Nat → Prop) (hfp : ∀ id, fp id → fp0 id) : Stp fp L h w L h w :=
  ⟨.refl _, ⟨rfl, rfl, rfl, Nat.le_refl _, fun _ _ _ => rfl⟩, Nat.le_refl _, fun _ _ _ => rfl, fun _ _ e => .inl e, fun _ _ e => .inl e, fun _ e => .inl e, fun _ _ e => .inl e,
    ⟨s.imm, s.lt, s.big, s.not_m, s.alive, fun id p f e => by
        rcases f with f | f
        · exact s.blk id p (hfp _ f) e
        · have := s.lt id _ e; omega, s.inj, s.dead_lt, fun id d f => by
        rcases f with f | f
        · exact s.dead id d (hfp _ f)
        · have := s.dead_lt id d; omega⟩⟩
/-- The count of draws turns alone. -/
def drawnTo (w : World) (n : Nat) : World := { w with drawn := n }
theorem SatOn.drawn {fp : Nat → Prop} {L : LC} {h : Heap} {w : World} (s : SatOn fp L h w) (n : Nat) : SatOn fp L h (drawnTo w n) :=
  ⟨s.imm, s.lt, s.big, s.not_m, s.alive, fun id p f e => BlkR.mono (w := w) (.refl _) rfl (s.blk id p f e), s.inj, s.dead_lt, s.dead⟩

/-- A new block. -/
def LC.new (L : LC) (id : Nat) (p : Pl) : LC := { L with ρ := fun i => if i = id then some p else L.ρ i }
theorem LC.new_le {L : LC} {id : Nat} {p : Pl} (h : L.ρ id = none) : LE L (L.new id p) :=
  ⟨fun _ _ e => e, fun i q e => by
    by_cases k : i = id
    · subst k; rw [h] at e; cases e
    · exact .inl (by simp [LC.new, k, e]), fun _ e => e⟩
theorem SatOn.ρ_new {fp : Nat → Prop} {L : LC} {h : Heap} {w : World} (s : SatOn fp L h w) {id : Nat} (hid : h.length ≤ id) : L.ρ id = none := by
  cases e : L.ρ id with
  | none => rfl
  | some p => have := s.lt id p e; omega
theorem SatOn.m_new {fp : Nat → Prop} {L : LC} {h : Heap} {w : World} (s : SatOn fp L h w) {b : Nat} (hb : w.heap.size ≤ b) : L.m b = none := by
  cases e : L.m b with
  | none => rfl
  | some c =>
    obtain ⟨_, _, _, e, _⟩ := s.imm b c e
    have := (Array.getElem?_eq_some_iff.1 e).1
    omega
def pushed (w : World) (o : Obj) : World := { w with heap := w.heap.push o }
theorem pushed_old {w : World} {o : Obj} {b : Nat} (h : b < w.heap.size) : (pushed w o).heap[b]? = w.heap[b]? := by
  show (w.heap.push o)[b]? = _
  simp [Array.getElem?_push, Nat.ne_of_lt h]
theorem pushed_new {w : World} {o : Obj} : (pushed w o).heap[w.heap.size]? = some o := by
  show (w.heap.push o)[w.heap.size]? = _
  simp
theorem lt_of_heap {w : World} {b : Nat} {x : Obj} (h : w.heap[b]? = some x) : b < w.heap.size := (Array.getElem?_eq_some_iff.1 h).1

theorem Stp.fresh {L : LC} {h : Heap} {w : World} {fp0 : Nat → Prop} (s : SatOn fp0 L h w) (fp : Nat → Prop) (hfp : ∀ id, fp id → fp0 id) (o : Obj) (x : Blk) (n : Nat)
    (hx : ∀ L', LE L L' → BlkR L' (pushed w o) ⟨w.heap.size, 0, n⟩ (some x)) :
    Stp fp L h w (L.new h.length ⟨w.heap.size, 0, n⟩) (h ++ [x]) (pushed w o) := by
  have hle : LE L (L.new h.length ⟨w.heap.size, 0, n⟩) := LC.new_le (s.ρ_new (Nat.le_refl _))
  have hρ : ∀ id p, (L.new h.length ⟨w.heap.size, 0, n⟩).ρ id = some p → (id = h.length ∧ p = ⟨w.heap.size, 0, n⟩) ∨ (id ≠ h.length ∧ L.ρ id = some p) := by
    intro id p e
    by_cases k : id = h.length
    · simp only [LC.new, k, if_true] at e; exact .inl ⟨k, (Option.some.inj e).symm⟩
    · simp only [LC.new, if_neg k] at e; exact .inr ⟨k, e⟩
  refine ⟨hle, ⟨rfl, rfl, rfl, by simp [pushed], fun b hb _ => pushed_old hb⟩, by simp, fun id hid _ => List.getElem?_append_left hid, fun id p e => .inl ?_, fun id p e => ?_, fun _ e => .inl e, fun _ _ e => .inl e, ?_⟩
  · have : id ≠ h.length := Nat.ne_of_lt (s.lt id p e)
    simp [LC.new, this, e]
  · rcases hρ id p e with ⟨rfl, rfl⟩ | ⟨_, e⟩
    · exact .inr ⟨Nat.le_refl _, .inl (Nat.le_refl _)⟩
    · exact .inl e
  · refine ⟨fun b c e => ?_, fun id p e => ?_, fun id p e => ?_, fun id p e => ?_, fun id p e => ?_, fun id p f e => ?_, fun i j p q ei ej hb => ?_, fun id d => ?_, fun id d f => ?_⟩
    · obtain ⟨cs, t, fr, e1, e2⟩ := s.imm b c e
      exact ⟨cs, t, fr, by rw [pushed_old (lt_of_heap e1)]; exact e1, e2⟩
    · rcases hρ id p e with ⟨rfl, rfl⟩ | ⟨_, e⟩
      · simp
      · have := s.lt id p e; simp; omega
    · rcases hρ id p e with ⟨rfl, rfl⟩ | ⟨_, e⟩
      · simp [pushed]
      · have := s.big id p e; simp [pushed]; omega
    · rcases hρ id p e with ⟨rfl, rfl⟩ | ⟨_, e⟩
      · exact s.m_new (Nat.le_refl _)
      · exact s.not_m id p e
    · rcases hρ id p e with ⟨rfl, rfl⟩ | ⟨_, e⟩
      · intro d; have := s.dead_lt _ d; omega
      · exact s.alive id p e
    · rcases hρ id p e with ⟨rfl, rfl⟩ | ⟨_, e⟩
      · rw [List.getElem?_append_right (Nat.le_refl _), Nat.sub_self]
        exact hx _ hle
      · have hid := s.lt id p e
        rw [List.getElem?_append_left hid]
        rcases f with f | f
        · exact BlkR.mono hle (pushed_old (s.big id p e)) (s.blk id p (hfp _ f) e)
        · omega
    · rcases hρ i p ei with ⟨rfl, rfl⟩ | ⟨_, ei⟩ <;> rcases hρ j q ej with ⟨rfl, rfl⟩ | ⟨_, ej⟩
      · rfl
      · have := s.big j q ej; simp at hb; omega
      · have := s.big i p ei; simp at hb; omega
      · exact s.inj i j p q ei ej hb
    · have := s.dead_lt id d; simp; omega
    · have hid := s.dead_lt id d
      rw [List.getElem?_append_left hid]
      rcases f with f | f
      · exact s.dead id d (hfp _ f)
      · omega

/-- A block turns in place. -/
theorem Stp.write {L : LC} {h : Heap} {w w' : World} {fp0 : Nat → Prop} (s : SatOn fp0 L h w) (fp : Nat → Prop) (hfp : ∀ id, fp id → fp0 id) (id : Nat) (hid : fp id) (p : Pl) (hp : L.ρ id = some p) (x : Blk)
    (os : w'.os = w.os) (tape : w'.tape = w.tape) (output : w'.output = w.output) (size : w'.heap.size = w.heap.size)
    (keep : ∀ b, b ≠ p.b → w'.heap[b]? = w.heap[b]?) (hx : BlkR L w' p (some x)) :
    Stp fp L h w L (h.set id x) w' := by
  have hlt := s.lt id p hp
  refine ⟨.refl _, ⟨os, tape, output, by omega, fun b hb hn => keep b fun e => hn id p hid hp e.symm⟩, by simp, fun i hi hn => ?_, fun _ _ e => .inl e, fun _ _ e => .inl e, fun _ e => .inl e, fun _ _ e => .inl e, ?_⟩
  · have : id ≠ i := fun e => hn (e ▸ hid)
    rw [List.getElem?_set_ne this]
  · refine ⟨fun b c e => ?_, fun i q e => by simpa using s.lt i q e, fun i q e => by rw [size]; exact s.big i q e, s.not_m, s.alive, fun i q f e => ?_, s.inj, fun i d => by simpa using s.dead_lt i d, fun i d f => ?_⟩
    · have hb : b ≠ p.b := by
        intro k
        have := s.not_m id p hp
        rw [← k, e] at this
        cases this
      rw [keep b hb]; exact s.imm b c e
    · by_cases k : id = i
      · subst k
        rw [hp] at e
        cases e
        rw [List.getElem?_set_self hlt]
        exact hx
      · rw [List.getElem?_set_ne k]
        rcases f with f | f
        · have hb : q.b ≠ p.b := fun hb => k (s.inj _ _ _ _ hp e hb.symm)
          exact BlkR.mono (.refl _) (keep _ hb) (s.blk i q (hfp _ f) e)
        · have := s.lt i q e; omega
    · have k : id ≠ i := fun k => s.alive id p hp (k ▸ d)
      rw [List.getElem?_set_ne k]
      rcases f with f | f
      · exact s.dead i d (hfp _ f)
      · have := s.dead_lt i d; omega

/-- A block is given up, and goes on under a new number: in its place, or in a new one. -/
def LC.move (L : LC) (old id : Nat) (p : Pl) : LC :=
  { L with ρ := fun i => if i = id then some p else if i = old then none else L.ρ i, dead := fun i => i = old ∨ L.dead i }
theorem Stp.move {L : LC} {h : Heap} {w w' : World} {fp0 : Nat → Prop} (s : SatOn fp0 L h w) (fp : Nat → Prop) (hfp : ∀ id, fp id → fp0 id) (old : Nat) (hid : fp old) (p : Pl) (hp : L.ρ old = some p) (x : Blk) (q : Pl)
    (os : w'.os = w.os) (tape : w'.tape = w.tape) (output : w'.output = w.output) (size : w.heap.size ≤ w'.heap.size)
    (keep : ∀ b, b < w.heap.size → b ≠ p.b → w'.heap[b]? = w.heap[b]?) (hq : q.b = p.b ∨ (w.heap.size ≤ q.b ∧ q.b < w'.heap.size)) (hx : ∀ L', LE L L' → BlkR L' w' q (some x)) :
    LE L (L.move old h.length q) ∧ Stp fp L h w (L.move old h.length q) (h.set old .dead ++ [x]) w' := by
  have hlt := s.lt old p hp
  have hne : old ≠ h.length := Nat.ne_of_lt hlt
  have hρ : ∀ i r, (L.move old h.length q).ρ i = some r → (i = h.length ∧ r = q) ∨ (i ≠ h.length ∧ i ≠ old ∧ L.ρ i = some r) := by
    intro i r e
    by_cases k : i = h.length
    · simp only [LC.move, k, if_true] at e; exact .inl ⟨k, (Option.some.inj e).symm⟩
    · by_cases k2 : i = old
      · simp only [LC.move, if_neg k, if_pos k2] at e; cases e
      · simp only [LC.move, if_neg k, if_neg k2] at e; exact .inr ⟨k, k2, e⟩
  have hle : LE L (L.move old h.length q) := ⟨fun _ _ e => e, fun i r e => by
    have k1 : i ≠ h.length := Nat.ne_of_lt (s.lt i r e)
    by_cases k2 : i = old
    · exact .inr (.inl k2)
    · exact .inl (by simp [LC.move, k1, k2, e]), fun _ e => .inr e⟩
  have hqb : q.b < w'.heap.size := by
    rcases hq with e | e
    · have := s.big old p hp; omega
    · exact e.2
  refine ⟨hle, hle, ⟨os, tape, output, size, fun b hb hn => keep b hb fun e => hn old p hid hp e.symm⟩, by simp, fun i hi hn => ?_, fun i r e => ?_, fun i r e => ?_, fun i d => ?_, fun _ _ e => .inl e, ?_⟩
  · have : old ≠ i := fun e => hn (e ▸ hid)
    rw [List.getElem?_append_left (by simpa using hi), List.getElem?_set_ne this]
  · have k1 : i ≠ h.length := Nat.ne_of_lt (s.lt i r e)
    by_cases k2 : i = old
    · exact .inr ⟨k2 ▸ hid, .inl k2⟩
    · exact .inl (by simp [LC.move, k1, k2, e])
  · rcases hρ i r e with ⟨rfl, rfl⟩ | ⟨_, _, e⟩
    · refine .inr ⟨Nat.le_refl _, ?_⟩
      rcases hq with e | e
      · exact .inr ⟨old, p, hid, hp, e.symm⟩
      · exact .inl e.1
    · exact .inl e
  · rcases d with d | d
    · exact .inr (.inl ⟨d ▸ hid, p, d ▸ hp⟩)
    · exact .inl d
  · refine ⟨fun b c e => ?_, fun i r e => ?_, fun i r e => ?_, fun i r e => ?_, fun i r e => ?_, fun i r f e => ?_, fun i j r t ei ej hb => ?_, fun i d => ?_, fun i d f => ?_⟩
    · have hb : b ≠ p.b := by
        intro k
        have := s.not_m old p hp
        rw [← k] at this
        have e' : L.m b = some c := e
        rw [e'] at this
        cases this
      obtain ⟨cs, t, fr, e1, e2⟩ := s.imm b c e
      exact ⟨cs, t, fr, by rw [keep b (lt_of_heap e1) hb]; exact e1, e2⟩
    · rcases hρ i r e with ⟨rfl, rfl⟩ | ⟨_, _, e⟩
      · simp
      · have := s.lt i r e; simp; omega
    · rcases hρ i r e with ⟨rfl, rfl⟩ | ⟨_, _, e⟩
      · exact hqb
      · have := s.big i r e; omega
    · rcases hρ i r e with ⟨rfl, rfl⟩ | ⟨_, _, e⟩
      · rcases hq with e | e
        · rw [e]; exact s.not_m old p hp
        · exact s.m_new e.1
      · exact s.not_m i r e
    · rcases hρ i r e with ⟨rfl, rfl⟩ | ⟨_, k, e⟩
      · intro d
        rcases d with d | d
        · exact hne d.symm
        · have := s.dead_lt _ d; omega
      · intro d
        rcases d with d | d
        · exact k d
        · exact s.alive i r e d
    · rcases hρ i r e with ⟨rfl, rfl⟩ | ⟨_, k, e⟩
      · rw [List.getElem?_append_right (by simp)]
        simp only [List.length_set, Nat.sub_self]
        exact hx _ hle
      · have hi := s.lt i r e
        rw [List.getElem?_append_left (by simpa using hi), List.getElem?_set_ne (Ne.symm k)]
        rcases f with f | f
        · exact BlkR.mono hle (keep _ (s.big i r e) fun hb => k (s.inj _ _ _ _ e hp hb)) (s.blk i r (hfp _ f) e)
        · omega
    · rcases hρ i r ei with ⟨hi, hr⟩ | ⟨_, ki, ei'⟩ <;> rcases hρ j t ej with ⟨hj, ht⟩ | ⟨_, kj, ej'⟩
      · rw [hi, hj]
      · rw [hr] at hb
        rcases hq with e | e
        · exact absurd (s.inj _ _ _ _ ej' hp (hb.symm.trans e)) kj
        · have := s.big j t ej'; omega
      · rw [ht] at hb
        rcases hq with e | e
        · exact absurd (s.inj _ _ _ _ ei' hp (hb.trans e)) ki
        · have := s.big i r ei'; omega
      · exact s.inj i j r t ei' ej' hb
    · rcases d with d | d
      · simp; omega
      · have := s.dead_lt i d; simp; omega
    · rcases d with d | d
      · subst d
        rw [List.getElem?_append_left (by simpa using hlt), List.getElem?_set_self hlt]
      · have hi := s.dead_lt i d
        have k : old ≠ i := fun k => s.alive old p hp (k ▸ d)
        rw [List.getElem?_append_left (by simpa using hi), List.getElem?_set_ne k]
        rcases f with f | f
        · exact s.dead i d (hfp _ f)
        · omega
end Go.Proofs.YtgcdpdkccaabcaaGreat.Ev
