/- symMergeCmpFunc: the merge, cut in two. Conditions: none (definitions and lemmas). -/
import Derived.Test.YtfihpghhngfelaaLkK
namespace Go.Proofs.Ytfihpghhngfelaa.Lk
open Go Go.Proofs Go.Proofs.Ytfihpghhngfelaa.Ev
set_option maxRecDepth 100000
set_option linter.unusedVariables false
set_option linter.unusedSimpArgs false
section
variable {α : Type} {lt : α → α → Bool}
theorem srt_le (O : Ord lt) {A B : List α} {x : α} (h : Srt lt (A ++ x :: B)) : ∀ u ∈ A ++ [x], lt x u = false := by
  intro u hu
  rcases List.mem_append.1 hu with hu | hu
  · exact (List.pairwise_append.1 h).2.2 u hu x (by simp)
  · simp at hu; rw [hu]; exact O.irr _
theorem srt_ge (O : Ord lt) {A B : List α} {x : α} (h : Srt lt (A ++ x :: B)) : ∀ u ∈ x :: B, lt u x = false := by
  intro u hu
  rcases List.mem_cons.1 hu with rfl | hu
  · exact O.irr _
  · exact (List.pairwise_cons.1 (List.pairwise_append.1 h).2.1).1 u hu
theorem mem_get {l : List α} {x : α} {i : Nat} (h : l[i]? = some x) : l = l.take i ++ x :: l.drop (i + 1) := by
  obtain ⟨h1, rfl⟩ := List.getElem?_eq_some_iff.1 h
  simp
theorem symCut (O : Ord lt) {P U V Q D : List α} (hD : P ++ U ++ V ++ Q = D) (hU : Srt lt U) (hV : Srt lt V) {a m b s e : Nat} (ha : P.length = a) (hm : a + U.length = m) (hb : m + V.length = b)
    (h1 : a ≤ s) (h2 : s ≤ m) (h3 : m ≤ e) (h4 : e ≤ b)
    (lo : s = a ∨ e = b ∨ ∃ x y, D[s - 1]? = some x ∧ D[e]? = some y ∧ lt y x = false)
    (hi : s = m ∨ e = m ∨ ∃ x y, D[s]? = some x ∧ D[e - 1]? = some y ∧ lt y x = true) :
    st lt (U.take (s - a) ++ V.take (e - m)) ++ st lt (U.drop (s - a) ++ V.drop (e - m)) = st lt (U ++ V) := by
  have gU : ∀ i, a ≤ i → i < m → D[i]? = U[i - a]? := by
    intro i k1 k2
    rw [← hD, List.getElem?_append_left (by simp only [List.length_append]; omega), List.getElem?_append_left (by simp only [List.length_append]; omega), List.getElem?_append_right (by omega), ha]
  have gV : ∀ i, m ≤ i → i < b → D[i]? = V[i - m]? := by
    intro i k1 k2
    rw [← hD, List.getElem?_append_left (by simp only [List.length_append]; omega), List.getElem?_append_right (by simp only [List.length_append]; omega), List.length_append, ha, hm]
  have hUs : U.take (s - a) ++ U.drop (s - a) = U := List.take_append_drop _ _
  have hVs : V.take (e - m) ++ V.drop (e - m) = V := List.take_append_drop _ _
  have pU : Srt lt (U.take (s - a) ++ U.drop (s - a)) := by rw [hUs]; exact hU
  have pV : Srt lt (V.take (e - m) ++ V.drop (e - m)) := by rw [hVs]; exact hV
  refine (st_cut O (fun v hv u hu => ?_) (fun u hu v hv => ?_) (List.pairwise_append.1 pU).2.2 (List.pairwise_append.1 pV).2.2).trans (by rw [hUs, hVs])
  · -- what comes from the right to the left is less
    have k1 : s ≠ m := fun k => by rw [List.drop_eq_nil_of_le (by omega)] at hu; cases hu
    have k2 : e ≠ m := fun k => by rw [show e - m = 0 by omega] at hv; cases hv
    obtain ⟨x, y, hx, hy, hlt⟩ := (hi.resolve_left k1).resolve_left k2
    rw [gU s h1 (by omega)] at hx
    rw [gV (e - 1) (by omega) (by omega)] at hy
    have eU := mem_get hx
    have eV := mem_get hy
    have du : U.drop (s - a) = x :: U.drop (s - a + 1) := by
      obtain ⟨q, rfl⟩ := List.getElem?_eq_some_iff.1 hx
      exact List.drop_eq_getElem_cons q
    have dv : V.take (e - m) = V.take (e - 1 - m) ++ [y] := by
      have : V.take (e - 1 - m + 1) = V.take (e - 1 - m) ++ [y] := by rw [List.take_add_one, hy]; rfl
      rw [← this]; congr 1; omega
    rw [du] at hu
    rw [dv] at hv
    rw [eU] at hU
    rw [eV] at hV
    have q1 := srt_ge O hU u hu
    have q2 := srt_le O hV v hv
    cases hc : lt v u with
    | true => rfl
    | false => have := O.ntrans y v x q2 (O.ntrans v u x hc q1); rw [hlt] at this; cases this
  · have k1 : s ≠ a := fun k => by rw [show s - a = 0 by omega] at hu; cases hu
    have k2 : e ≠ b := fun k => by rw [List.drop_eq_nil_of_le (by omega)] at hv; cases hv
    obtain ⟨x, y, hx, hy, hlt⟩ := (lo.resolve_left k1).resolve_left k2
    rw [gU (s - 1) (by omega) (by omega)] at hx
    rw [gV e h3 (by omega)] at hy
    have eU := mem_get hx
    have eV := mem_get hy
    have dv : V.drop (e - m) = y :: V.drop (e - m + 1) := by
      obtain ⟨q, rfl⟩ := List.getElem?_eq_some_iff.1 hy
      exact List.drop_eq_getElem_cons q
    have du : U.take (s - a) = U.take (s - 1 - a) ++ [x] := by
      have : U.take (s - 1 - a + 1) = U.take (s - 1 - a) ++ [x] := by rw [List.take_add_one, hx]; rfl
      rw [← this]; congr 1; omega
    rw [du] at hu
    rw [dv] at hv
    rw [eU] at hU
    rw [eV] at hV
    have q1 := srt_le O hU u hu
    have q2 := srt_ge O hV v hv
    exact O.ntrans v x u (O.ntrans v y x q2 hlt) q1
end
end Go.Proofs.Ytfihpghhngfelaa.Lk
