/- From the reading of the arguments to abstract values. Conditions: none (definitions and lemmas). -/
import Derived.Test.YtgcdpdkccaabcaaGreatEvW
import Derived.ChangeArms
import Derived.Carry
namespace Go.Proofs.YtgcdpdkccaabcaaGreat.Ev
open Go
set_option linter.unusedVariables false
set_option linter.unusedSimpArgs false
set_option linter.unusedSectionVars false
/-- All memory that is there, as memory that never changes. -/
def mW (W : World) : LC := ⟨fun b => match W.heap[b]? with | some (.cells c _ _) => some c.toList | _ => none, fun _ => none, fun _ => False⟩
theorem mW_m {W : World} {b : Nat} {c : Array Value} {e : TypeId} {fr : Nat × Nat} (h : W.heap[b]? = some (.cells c e fr)) : (mW W).m b = some c.toList := by simp [mW, h]
theorem mW_sat (W : World) : SatH (mW W) [] W := by
  refine ⟨fun b c h => ?_, fun _ _ e => (by cases e), fun _ _ e => (by cases e), fun _ _ e => (by cases e), fun _ _ e => (by cases e), fun _ _ _ e => (by cases e), fun _ _ _ _ e => (by cases e), fun _ d => d.elim, fun _ d => d.elim⟩
  simp only [mW] at h
  split at h
  · rename_i cs e fr hb
    cases h
    exact ⟨cs, e, fr, hb, rfl⟩
  · cases h
theorem mapM_some {α β : Type} {f : α → Option β} : ∀ {l : List α} {r : List β}, l.mapM f = some r → r.length = l.length ∧ ∀ (i : Nat) (x : α), l[i]? = some x → f x = r[i]?
  | [], r, h => by simp at h; subst h; simp
  | a :: l, r, h => by
    simp only [List.mapM_cons, Option.bind_eq_bind, Option.bind_eq_some_iff, Option.pure_def, Option.some.injEq] at h
    obtain ⟨b, hb, r', hr, rfl⟩ := h
    obtain ⟨h1, h2⟩ := mapM_some hr
    refine ⟨by simp [h1], fun i x hx => ?_⟩
    cases i with
    | zero => simp only [List.getElem?_cons_zero, Option.some.injEq] at hx; subst hx; simpa using hb
    | succ i => simpa using h2 i x (by simpa using hx)
theorem cells?_open {w : World} {a : Addr} {k : Nat} {cs : List Value} (hk : 0 < k) (h : w.cells? 0 a k = some cs) : a.spot = none ∧ ∃ c e fr, w.heap[a.block]? = some (.cells c e fr) ∧ cs = (c.toList.drop a.off).take k ∧ cs.length = k := by
  unfold World.cells? at h
  rw [if_pos (Nat.zero_le _)] at h
  obtain ⟨hl, hg⟩ := mapM_some h
  rw [List.length_range] at hl
  have hg' : ∀ i, i < k → w.cell? (a.add i) = cs[i]? := fun i hi => hg i i (by rw [List.getElem?_range hi])
  have h0 := hg' 0 hk
  have h00 : a.add 0 = a := by simp [Addr.add]
  rw [h00, List.getElem?_eq_getElem (by omega)] at h0
  unfold World.cell? at h0
  split at h0
  case h_2 => cases h0
  rename_i c e fr hb
  split at h0
  · cases h0
  rename_i hs
  have hs' : a.spot = none := by simpa using hs
  refine ⟨hs', c, e, fr, hb, ?_, hl⟩
  apply List.ext_getElem?
  intro i
  by_cases hi : i < k
  · have := hg' i hi
    have hadd : a.add i = ⟨a.block, a.off + i, none⟩ := by
      unfold Addr.add
      split
      · rename_i e0; subst e0; cases a; simp_all
      · rfl
    rw [hadd] at this
    unfold World.cell? at this
    simp only [hb] at this
    rw [List.getElem?_take_of_lt hi, List.getElem?_drop, ← this]
    simp
  · rw [List.getElem?_eq_none (by omega), List.getElem?_eq_none (by rw [List.length_take]; omega)]
section
variable {P : Program} {W : World}
/-- What is read at a type, as a record, and how much of the bulk it is. -/
def Dec (bulk : {H : Type} → DataW H → Nat) (P : Program) (W : World) {α : Type} (e : TypeId) (k : Nat) (enc : α → List AV) (wt : α → Nat) : Prop :=
  ∀ (H : Type) (eh : TypeId × Value → H) (fuel : Nat) (cs : List Value) (x : DataW H × List MemPlace), cs.length = k → DataW.trod eh P W 0 (fun _ => true) true fuel e cs = some x → ∃ a, RVs (mW W) (enc a) cs ∧ wt a ≤ bulk x.1
def sumW {α : Type} (wt : α → Nat) (l : List α) : Nat := (l.map wt).sum
theorem sumW_nil {α : Type} {wt : α → Nat} : sumW wt [] = 0 := rfl
theorem sumW_cons {α : Type} {wt : α → Nat} {a : α} {l : List α} : sumW wt (a :: l) = wt a + sumW wt l := by simp [sumW]
theorem sumW_append {α : Type} {wt : α → Nat} {a b : List α} : sumW wt (a ++ b) = sumW wt a + sumW wt b := by simp [sumW]
theorem sumW_mem {α : Type} {wt : α → Nat} {a : α} : ∀ {l : List α}, a ∈ l → wt a ≤ sumW wt l
  | [], h => by cases h
  | b :: l, h => by
    rw [sumW_cons]
    rcases List.mem_cons.1 h with rfl | h
    · omega
    · have := sumW_mem (wt := wt) h; omega
theorem sumW_len {α : Type} {wt : α → Nat} (h : ∀ a, 1 ≤ wt a) : ∀ {l : List α}, l.length ≤ sumW wt l
  | [] => Nat.le_refl _
  | a :: l => by rw [sumW_cons, List.length_cons]; have := sumW_len h (l := l); have := h a; omega
theorem decs {α : Type} {k : Nat} {enc : α → List AV} {wt : α → Nat} {C : List Value} : ∀ {bs : List Nat}, bs.length * k ≤ C.length → (∀ i b, bs[i]? = some b → ∃ a, RVs (mW W) (enc a) ((C.drop (i * k)).take k) ∧ wt a ≤ b) →
    ∃ l : List α, l.length = bs.length ∧ RVs (mW W) (encL enc l) (C.take (bs.length * k)) ∧ sumW wt l ≤ bs.sum := by
  intro bs
  induction bs generalizing C with
  | nil => intro _ _; exact ⟨[], rfl, by simp [encL_nil, RVs], Nat.le_refl _⟩
  | cons b bs ih =>
    intro hl h
    obtain ⟨a, ha, hw⟩ := h 0 b rfl
    rw [Nat.zero_mul, List.drop_zero] at ha
    have hl' : (bs.length + 1) * k ≤ C.length := hl
    rw [Nat.add_mul] at hl'
    obtain ⟨l, h1, h2, h3⟩ := ih (C := C.drop k) (by rw [List.length_drop]; omega) fun i b hb => by
      have := h (i + 1) b (by simpa using hb)
      rw [Nat.add_mul, Nat.one_mul, Nat.add_comm (i * k) k, ← List.drop_drop] at this
      exact this
    refine ⟨a :: l, by simp [h1], ?_, by rw [sumW_cons, List.sum_cons]; omega⟩
    rw [encL_cons]
    have e : C.take ((b :: bs).length * k) = C.take k ++ (C.drop k).take (bs.length * k) := by
      rw [List.length_cons, Nat.add_mul, Nat.one_mul, Nat.add_comm, List.take_add]
    rw [e]
    exact ha.append h2
/-- A slice. -/
theorem Dec.slice {bulk : {H : Type} → DataW H → Nat} (hb : ∀ {H : Type} (es rs : List (DataW H)), (es.map bulk).sum ≤ bulk (.slice es rs)) {α : Type} {t e : TypeId} {k : Nat} {enc : α → List AV} {wt : α → Nat} (hu : P.underlying t = some (.slice e)) (hk : P.cellsOf e = k) (h0 : 0 < k) (hek : EncK enc k) (d : Dec bulk P W e k enc wt) :
    Dec bulk P W t 1 (fun o : Option (List α) => [encS enc o]) (fun o => sumW wt (ls o)) := by
  intro H eh fuel cs x hl h
  rcases DataW.trod_slice hu h with ⟨rfl, rfl⟩ | ⟨a, len, cap, elems, rest, n, rfl, rfl, rfl, _, hlc, _, hel, hge, _, _⟩
  · exact ⟨none, .cons (by simp [encS, RV]) .nil, by simp [ls, sumW_nil]⟩
  · rw [hk] at hge
    by_cases hz : len = 0
    · subst hz
      refine ⟨some [], .cons ?_ .nil, by simp [ls, sumW_nil]⟩
      exact ⟨a, cap, rfl, by simp, (fun _ h => by cases h), .inl ⟨rfl, rfl⟩⟩
    · have get : ∀ i, i < len → ∃ cs y, W.cells? 0 (a.add (i * k)) k = some cs ∧ elems[i]? = some y ∧ DataW.trod eh P W 0 (fun _ => true) true n e cs = some y := fun i hi => by
        have := hge i hi
        obtain ⟨y, hy⟩ : ∃ y, elems[i]? = some y := ⟨_, List.getElem?_eq_getElem (by omega)⟩
        rw [hy] at this
        obtain ⟨cs, h1, h2⟩ := Option.bind_eq_some_iff.1 this
        exact ⟨cs, y, h1, hy, h2⟩
      obtain ⟨cs0, y0, hc0, _, _⟩ := get 0 (by omega)
      have h00 : a.add (0 * k) = a := by simp [Addr.add]
      rw [h00] at hc0
      obtain ⟨hs, c, ty, fr, hb2, _, _⟩ := cells?_open h0 hc0
      have cells : ∀ i, i < len → ∃ y, elems[i]? = some y ∧ (((c.toList.drop a.off).drop (i * k)).take k).length = k ∧ DataW.trod eh P W 0 (fun _ => true) true n e (((c.toList.drop a.off).drop (i * k)).take k) = some y := fun i hi => by
        obtain ⟨cs, y, h1, h2, h3⟩ := get i hi
        have hadd : a.add (i * k) = ⟨a.block, a.off + i * k, none⟩ := by
          unfold Addr.add
          split
          · rename_i e0; rw [e0]; cases a; simp_all
          · rfl
        rw [hadd] at h1
        obtain ⟨_, c', ty', fr', hb', e1, e2⟩ := cells?_open h0 h1
        simp only at hb'
        rw [hb2] at hb'
        cases hb'
        rw [List.drop_drop]
        rw [e1] at h3 e2
        exact ⟨y, h2, e2, h3⟩
      have hlen : elems.length * k ≤ (c.toList.drop a.off).length := by
        obtain ⟨y, _, h2, _⟩ := cells (len - 1) (by omega)
        rw [List.length_take, List.length_drop] at h2
        have e1 : (len - 1) * k + k = len * k := by
          have : len = (len - 1) + 1 := by omega
          conv => rhs; rw [this, Nat.add_mul, Nat.one_mul]
        rw [hel]
        omega
      obtain ⟨l, h1, h2, h3⟩ := decs (wt := wt) (enc := enc) (bs := elems.map fun x => bulk x.1) (C := c.toList.drop a.off) (by rw [List.length_map]; exact hlen) fun i b hbi => by
        rw [List.getElem?_map] at hbi
        obtain ⟨y, hy, rfl⟩ := Option.map_eq_some_iff.1 hbi
        obtain ⟨y', hy', h2, h3⟩ := cells i (by rw [← hel]; exact (List.getElem?_eq_some_iff.1 hy).1)
        rw [hy] at hy'
        cases hy'
        exact d H eh n _ y h2 h3
      rw [List.length_map] at h1 h2
      refine ⟨some l, .cons ?_ .nil, ?_⟩
      · show RV (mW W) (.vsl (encL enc l) l.length none) _
        rw [h1, hel]
        refine ⟨a, cap, rfl, hlc, (fun _ h => by cases h), .inr ⟨c.toList, mW_m hb2, hs, ?_⟩⟩
        rw [hek.length, h1]
        exact h2
      · have := hb (elems.map (·.1)) (rest.map (·.1))
        rw [List.map_map] at this
        exact Nat.le_trans h3 this
theorem len2 {α : Type} {l : List α} (h : l.length = 2) : ∃ a b, l = [a, b] := by
  match l, h with
  | [a, b], _ => exact ⟨a, b, rfl⟩
theorem len3 {α : Type} {l : List α} (h : l.length = 3) : ∃ a b c, l = [a, b, c] := by
  match l, h with
  | [a, b, c], _ => exact ⟨a, b, c, rfl⟩
theorem len4 {α : Type} {l : List α} (h : l.length = 4) : ∃ a b c d, l = [a, b, c, d] := by
  match l, h with
  | [a, b, c, d], _ => exact ⟨a, b, c, d, rfl⟩
theorem len5 {α : Type} {l : List α} (h : l.length = 5) : ∃ a b c d e, l = [a, b, c, d, e] := by
  match l, h with
  | [a, b, c, d, e], _ => exact ⟨a, b, c, d, e, rfl⟩
/-- A call that turned nothing that was there. -/
theorem below_of {W W' : World} {L' : LC} {h' : Heap} (t : Stps (mW W) [] W L' h' W') : RowKit.Below W.heap.size W W' :=
  ⟨t.os, t.tape, t.output, t.size, fun k hk => t.keep k hk fun _ _ e => by cases e⟩
/-- From a contract at the empty heap to a call. -/
theorem calls_of {f : FuncId} {args : List AV} {r : AV} (k : OrcAt P f args [] r [] 0) {vs : Array Value} (hv : RVs (mW W) args vs.toList) : Calls P f vs W fun e W' => ∃ v L', e = .returned v ∧ RV L' r v ∧ RowKit.Below W.heap.size W W' := by
  refine (k.sound (mW W) W vs (mW_sat W) hv).mono ?_
  rintro e w' ⟨r0, h1, L', v, ⟨rfl, rfl⟩, rfl, hrv, st, kp⟩
  exact ⟨v, L', rfl, hrv, below_of st⟩
end
end Go.Proofs.YtgcdpdkccaabcaaGreat.Ev
