/- Stable insertion, on plain lists. Conditions: none (definitions and lemmas). -/
namespace Go.Proofs.Ytfihpghhngfelaa.Lk
set_option linter.unusedVariables false
section
variable {α : Type} (lt : α → α → Bool)
/-- x behind all that are not greater. -/
def ins (x : α) : List α → List α
  | [] => [x]
  | y :: ys => if lt x y = true then x :: y :: ys else y :: ins x ys
/-- The stable order. -/
def st (l : List α) : List α := l.foldl (fun s x => ins lt x s) []
theorem ins_length (x : α) (l : List α) : (ins lt x l).length = l.length + 1 := by
  induction l with
  | nil => rfl
  | cons y l ih => simp only [ins]; split <;> simp [ih]
theorem st_snoc (l : List α) (x : α) : st lt (l ++ [x]) = ins lt x (st lt l) := by simp [st]
theorem st_length (l : List α) : (st lt l).length = l.length := by
  have : ∀ (l s : List α), (l.foldl (fun s x => ins lt x s) s).length = s.length + l.length := by
    intro l
    induction l with
    | nil => intro s; rfl
    | cons x l ih => intro s; simp [ih, ins_length]; omega
  have h := this l []
  simp only [List.length_nil, Nat.zero_add] at h
  exact h
/-- Sorted: no later one is less than an earlier one. -/
def Srt (l : List α) : Prop := l.Pairwise fun x y => lt y x = false
structure Ord : Prop where
  irr : ∀ x, lt x x = false
  trans : ∀ x y z, lt x y = true → lt y z = true → lt x z = true
  ntrans : ∀ x y z, lt x y = false → lt y z = false → lt x z = false
variable {lt}
theorem Ord.asym (O : Ord lt) {x y : α} (h : lt x y = true) : lt y x = false := by
  cases h2 : lt y x with
  | false => rfl
  | true => have := O.trans x y x h h2; rw [O.irr] at this; cases this
theorem ins_eq {x : α} {A B : List α} (hA : ∀ y ∈ A, lt x y = false) (hB : ∀ y ∈ B, lt x y = true) : ins lt x (A ++ B) = A ++ x :: B := by
  induction A with
  | nil =>
    cases B with
    | nil => rfl
    | cons y B => simp [ins, hB y (by simp)]
  | cons y A ih =>
    simp only [List.cons_append, ins, hA y (by simp), Bool.false_eq_true, if_false]
    rw [ih fun z hz => hA z (by simp [hz])]
theorem ins_mem {x y : α} {l : List α} : y ∈ ins lt x l ↔ y = x ∨ y ∈ l := by
  induction l with
  | nil => simp [ins]
  | cons z l ih =>
    simp only [ins]
    split
    · simp
    · simp only [List.mem_cons, ih]
      constructor
      · rintro (h | h | h)
        · exact .inr (.inl h)
        · exact .inl h
        · exact .inr (.inr h)
      · rintro (h | h | h)
        · exact .inr (.inl h)
        · exact .inl h
        · exact .inr (.inr h)
theorem ins_srt (O : Ord lt) {x : α} {l : List α} (h : Srt lt l) : Srt lt (ins lt x l) := by
  induction l with
  | nil => simp [Srt, ins]
  | cons y l ih =>
    have h' := List.pairwise_cons.1 h
    simp only [ins]
    split
    · rename_i hc
      refine List.pairwise_cons.2 ⟨fun z hz => ?_, h⟩
      rcases List.mem_cons.1 hz with rfl | hz
      · exact O.asym hc
      · exact O.ntrans z y x (h'.1 z hz) (O.asym hc)
    · rename_i hc
      refine List.pairwise_cons.2 ⟨fun z hz => ?_, ih h'.2⟩
      rcases ins_mem.1 hz with rfl | hz
      · simpa using hc
      · exact h'.1 z hz
theorem st_srt (O : Ord lt) (l : List α) : Srt lt (st lt l) := by
  have : ∀ (l s : List α), Srt lt s → Srt lt (l.foldl (fun s x => ins lt x s) s) := by
    intro l
    induction l with
    | nil => intro s h; exact h
    | cons x l ih => intro s h; exact ih _ (ins_srt O h)
  exact this l [] List.Pairwise.nil
/-- In a sorted list, what ends with one that is not greater has none that is greater. -/
theorem srt_last (O : Ord lt) {x y : α} {A : List α} (h : Srt lt (A ++ [y])) (hy : lt x y = false) : ∀ z ∈ A ++ [y], lt x z = false := by
  intro z hz
  rcases List.mem_append.1 hz with hz | hz
  · have := (List.pairwise_append.1 h).2.2 z hz y (by simp)
    exact O.ntrans x y z hy this
  · simp at hz; rw [hz]; exact hy
end
end Go.Proofs.Ytfihpghhngfelaa.Lk
