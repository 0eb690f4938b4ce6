/- symMergeCmpFunc: its binary searches, on plain lists. Conditions: none (definitions and lemmas). -/
import Derived.Test.YtfihpghhngfelaaLkH
namespace Go.Proofs.Ytfihpghhngfelaa.Lk
open Go Go.Proofs Go.Proofs.Ytfihpghhngfelaa.Ev
set_option maxRecDepth 100000
set_option linter.unusedVariables false
set_option linter.unusedSimpArgs false
variable {α : Type} {lt : α → α → Bool}
/-- The list, cut at a place within. -/
theorem cut_at {W : List α} {h : Nat} (hh : h < W.length) : ∃ W1 w W2, W = W1 ++ w :: W2 ∧ W1.length = h := ⟨W.take h, W[h], W.drop (h + 1), by simp, by rw [List.length_take, Nat.min_eq_left (by omega)]⟩
/-- Below one that is less than x all are less. -/
theorem low_lt (O : Ord lt) {W1 W2 : List α} {w x : α} (hs : Srt lt (W1 ++ w :: W2)) (h : lt w x = true) : ∀ v ∈ W1 ++ [w], lt v x = true := by
  intro v hv
  rcases List.mem_append.1 hv with hv | hv
  · have := (List.pairwise_append.1 hs).2.2 v hv w (by simp)
    cases hx : lt v x with
    | true => rfl
    | false => have := O.ntrans w v x this hx; rw [h] at this; cases this
  · simp at hv; rw [hv]; exact h
/-- Above one that is not less than x none is. -/
theorem high_nlt (O : Ord lt) {W1 W2 : List α} {w x : α} (hs : Srt lt (W1 ++ w :: W2)) (h : lt w x = false) : ∀ v ∈ w :: W2, lt v x = false := by
  intro v hv
  rcases List.mem_cons.1 hv with rfl | hv
  · exact h
  · have := (List.pairwise_cons.1 (List.pairwise_append.1 hs).2.1).1 v hv
    exact O.ntrans v w x this h
/-- Below one that x is not less than x is less than none. -/
theorem low_nlt (O : Ord lt) {W1 W2 : List α} {w x : α} (hs : Srt lt (W1 ++ w :: W2)) (h : lt x w = false) : ∀ v ∈ W1 ++ [w], lt x v = false := by
  intro v hv
  rcases List.mem_append.1 hv with hv | hv
  · have := (List.pairwise_append.1 hs).2.2 v hv w (by simp)
    exact O.ntrans x w v h this
  · simp at hv; rw [hv]; exact h
/-- Above one that x is less than x is less than all. -/
theorem high_lt (O : Ord lt) {W1 W2 : List α} {w x : α} (hs : Srt lt (W1 ++ w :: W2)) (h : lt x w = true) : ∀ v ∈ w :: W2, lt x v = true := by
  intro v hv
  rcases List.mem_cons.1 hv with rfl | hv
  · exact h
  · have := (List.pairwise_cons.1 (List.pairwise_append.1 hs).2.1).1 v hv
    cases hx : lt x v with
    | true => rfl
    | false => have := O.ntrans x v w hx this; rw [h] at this; cases this
/-- One element ahead of a sorted list. -/
theorem one_left (O : Ord lt) {x : α} {V1 V2 : List α} (hs : Srt lt (V1 ++ V2)) (h1 : ∀ v ∈ V1, lt v x = true) (h2 : ∀ v ∈ V2, lt v x = false) : V1 ++ x :: V2 = st lt ([x] ++ (V1 ++ V2)) := by
  refine st_eq O ?_ ?_
  · have hp := List.pairwise_append.1 hs
    refine List.pairwise_append.2 ⟨hp.1, List.pairwise_cons.2 ⟨h2, hp.2.1⟩, fun a ha b hb => ?_⟩
    rcases List.mem_cons.1 hb with rfl | hb
    · exact O.asym (h1 a ha)
    · exact hp.2.2 a ha b hb
  · have e := (same_swap O (A := V1) (B := [x]) fun u hu v hv => by simp at hv; subst hv; exact eqv_lt' (h1 u hu)).append (.refl V2)
    simpa using e
/-- One element behind a sorted list. -/
theorem one_right (O : Ord lt) {x : α} {U1 U2 : List α} (hs : Srt lt (U1 ++ U2)) (h1 : ∀ u ∈ U1, lt x u = false) (h2 : ∀ u ∈ U2, lt x u = true) : U1 ++ x :: U2 = st lt (U1 ++ U2 ++ [x]) := by
  rw [st_snoc, st_self O hs, ins_eq h1 h2]
end Go.Proofs.Ytfihpghhngfelaa.Lk
