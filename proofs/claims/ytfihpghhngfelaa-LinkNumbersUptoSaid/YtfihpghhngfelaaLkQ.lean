/- Stable orders are one; the merge. Conditions: none (definitions and lemmas). -/
import Derived.Test.YtfihpghhngfelaaLkP
namespace Go.Proofs.Ytfihpghhngfelaa.Lk
set_option linter.unusedVariables false
section
variable {α : Type} {lt : α → α → Bool}
def eqv (lt : α → α → Bool) (z w : α) : Bool := !lt z w && !lt w z
/-- For each key the same ones, in the same order. -/
def Same (lt : α → α → Bool) (R S : List α) : Prop := ∀ z, R.filter (eqv lt z) = S.filter (eqv lt z)
theorem Same.refl (R : List α) : Same lt R R := fun _ => rfl
theorem Same.symm {R S : List α} (h : Same lt R S) : Same lt S R := fun z => (h z).symm
theorem Same.trans {R S T : List α} (h : Same lt R S) (k : Same lt S T) : Same lt R T := fun z => (h z).trans (k z)
theorem Same.append {R S R' S' : List α} (h : Same lt R S) (k : Same lt R' S') : Same lt (R ++ R') (S ++ S') := fun z => by rw [List.filter_append, List.filter_append, h z, k z]
theorem Ord.eqv_self (O : Ord lt) (x : α) : eqv lt x x = true := by simp [eqv, O.irr]
theorem Same.mem (O : Ord lt) {R S : List α} (h : Same lt R S) {x : α} (hx : x ∈ R) : x ∈ S := by
  have : x ∈ R.filter (eqv lt x) := List.mem_filter.2 ⟨hx, O.eqv_self x⟩
  rw [h x] at this
  exact (List.mem_filter.1 this).1
theorem srt_uniq (O : Ord lt) : ∀ {R S : List α}, Srt lt R → Srt lt S → Same lt R S → R = S
  | [], S, _, _, h => by
    cases S with
    | nil => rfl
    | cons y S => exact absurd (h.symm.mem O (x := y) (by simp)) (by simp)
  | x :: R, [], _, _, h => absurd (h.mem O (x := x) (by simp)) (by simp)
  | x :: R, y :: S, hR, hS, h => by
    have hR' := List.pairwise_cons.1 hR
    have hS' := List.pairwise_cons.1 hS
    have h1 : lt x y = false := by
      rcases List.mem_cons.1 (h.mem O (x := x) (by simp)) with e | e
      · rw [e]; exact O.irr _
      · exact hS'.1 x e
    have h2 : lt y x = false := by
      rcases List.mem_cons.1 (h.symm.mem O (x := y) (by simp)) with e | e
      · rw [e]; exact O.irr _
      · exact hR'.1 y e
    have hxy : x = y := by
      have := h x
      rw [List.filter_cons_of_pos (O.eqv_self x), List.filter_cons_of_pos (show eqv lt x y = true by simp [eqv, h1, h2])] at this
      exact (List.cons.inj this).1
    subst hxy
    rw [srt_uniq O hR'.2 hS'.2 fun z => by
      have := h z
      by_cases hz : eqv lt z x = true
      · rw [List.filter_cons_of_pos hz, List.filter_cons_of_pos hz] at this
        exact (List.cons.inj this).2
      · rw [List.filter_cons_of_neg hz, List.filter_cons_of_neg hz] at this
        exact this]
theorem Ord.eqv_of (O : Ord lt) {z u v : α} (h1 : eqv lt z u = true) (h2 : eqv lt z v = true) : eqv lt u v = true := by
  simp only [eqv, Bool.and_eq_true, Bool.not_eq_true'] at h1 h2 ⊢
  exact ⟨O.ntrans u z v h1.2 h2.1, O.ntrans v z u h2.2 h1.1⟩
/-- What has no key in common may change places. -/
theorem same_swap (O : Ord lt) {A B : List α} (h : ∀ u ∈ A, ∀ v ∈ B, eqv lt u v = false) : Same lt (A ++ B) (B ++ A) := by
  intro z
  rw [List.filter_append, List.filter_append]
  cases hA : A.filter (eqv lt z) with
  | nil => simp
  | cons u A' =>
    have hu : u ∈ A.filter (eqv lt z) := by rw [hA]; simp
    have hB : B.filter (eqv lt z) = [] := by
      refine List.filter_eq_nil_iff.2 fun v hv hz => ?_
      have := O.eqv_of (List.mem_filter.1 hu).2 hz
      rw [h u (List.mem_filter.1 hu).1 v hv] at this
      cases this
    rw [hB]; simp
theorem eqv_lt {u v : α} (h : lt v u = true) : eqv lt u v = false := by simp [eqv, h]
theorem eqv_lt' {u v : α} (h : lt u v = true) : eqv lt u v = false := by simp [eqv, h]
theorem ins_same (O : Ord lt) (x : α) : ∀ {l : List α}, Srt lt l → Same lt (ins lt x l) (l ++ [x])
  | [], _ => .refl _
  | y :: l, h => by
    have h' := List.pairwise_cons.1 h
    simp only [ins]
    split
    · rename_i hc
      have hx : ∀ w ∈ y :: l, lt x w = true := fun w hw => by
        rcases List.mem_cons.1 hw with rfl | hw
        · exact hc
        · cases hxw : lt x w with
          | true => rfl
          | false => have := O.ntrans x w y hxw (h'.1 w hw); rw [hc] at this; cases this
      exact same_swap O (A := [x]) (B := y :: l) fun u hu v hv => by
        simp at hu; subst hu
        exact eqv_lt' (hx v hv)
    · exact (Same.refl [y]).append (ins_same O x h'.2)
theorem st_same (O : Ord lt) (l : List α) : Same lt (st lt l) l := by
  have : ∀ (l s : List α), Srt lt s → Same lt (l.foldl (fun s x => ins lt x s) s) (s ++ l) := by
    intro l
    induction l with
    | nil => intro s h; simp; exact .refl _
    | cons x l ih =>
      intro s h
      have h1 := ih _ (ins_srt O (x := x) h)
      have h2 : Same lt (ins lt x s ++ l) (s ++ [x] ++ l) := (ins_same O x h).append (.refl l)
      have := h1.trans h2
      simpa using this
  have h := this l [] List.Pairwise.nil
  rw [List.nil_append] at h
  exact h
/-- The stable order is the one sorted list with the same keys in the same order. -/
theorem st_eq (O : Ord lt) {R S : List α} (hR : Srt lt R) (h : Same lt R S) : R = st lt S := srt_uniq O hR (st_srt O S) (h.trans (st_same O S).symm)
theorem st_self (O : Ord lt) {R : List α} (hR : Srt lt R) : st lt R = R := (st_eq O hR (.refl R)).symm
theorem st_cong (O : Ord lt) {R S : List α} (h : Same lt R S) : st lt R = st lt S := st_eq O (st_srt O R) ((st_same O R).trans h)
theorem st_mem (O : Ord lt) {x : α} {l : List α} : x ∈ st lt l ↔ x ∈ l := ⟨fun h => (st_same O l).mem O h, fun h => (st_same O l).symm.mem O h⟩
/-- The merge, cut in two. -/
theorem st_cut (O : Ord lt) {U1 U2 V1 V2 : List α} (h1 : ∀ v ∈ V1, ∀ u ∈ U2, lt v u = true) (h2 : ∀ u ∈ U1, ∀ v ∈ V2, lt v u = false) (hU : ∀ u ∈ U1, ∀ u' ∈ U2, lt u' u = false) (hV : ∀ v ∈ V1, ∀ v' ∈ V2, lt v' v = false) :
    st lt (U1 ++ V1) ++ st lt (U2 ++ V2) = st lt (U1 ++ U2 ++ (V1 ++ V2)) := by
  refine st_eq O ?_ ?_
  · refine List.pairwise_append.2 ⟨st_srt O _, st_srt O _, fun x hx y hy => ?_⟩
    rcases List.mem_append.1 ((st_mem O).1 hx) with hx | hx <;> rcases List.mem_append.1 ((st_mem O).1 hy) with hy | hy
    · exact hU x hx y hy
    · exact h2 x hx y hy
    · exact O.asym (h1 x hx y hy)
    · exact hV x hx y hy
  · have e1 : Same lt (U2 ++ V1) (V1 ++ U2) := same_swap O fun u hu v hv => eqv_lt (h1 v hv u hu)
    have e2 : Same lt (U1 ++ V1 ++ (U2 ++ V2)) (U1 ++ (V1 ++ U2) ++ V2) := by simp; exact .refl _
    have e3 : Same lt (U1 ++ (V1 ++ U2) ++ V2) (U1 ++ (U2 ++ V1) ++ V2) := ((Same.refl U1).append e1.symm).append (.refl V2)
    have e4 : Same lt (U1 ++ (U2 ++ V1) ++ V2) (U1 ++ U2 ++ (V1 ++ V2)) := by simp; exact .refl _
    exact (((st_same O _).append (st_same O _)).trans e2).trans (e3.trans e4)
end
end Go.Proofs.Ytfihpghhngfelaa.Lk
