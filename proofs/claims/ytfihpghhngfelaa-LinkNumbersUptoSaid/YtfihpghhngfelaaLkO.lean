/- The order of names. Conditions: none (definitions and lemmas). -/
import Derived.Test.YtfihpghhngfelaaLkE
namespace Go.Proofs.Ytfihpghhngfelaa.Lk
open Go Go.Proofs Go.Proofs.Ytfihpghhngfelaa.Ev
theorem bl_irr : ∀ x : List UInt8, Op.bytesLess x x = false
  | [] => rfl
  | a :: x => by simp [Op.bytesLess, bl_irr x, UInt8.lt_irrefl]
theorem bl_trans : ∀ x y z : List UInt8, Op.bytesLess x y = true → Op.bytesLess y z = true → Op.bytesLess x z = true
  | _, _, [], _, h2 => by simp [Op.bytesLess] at h2
  | _, [], _ :: _, h1, _ => by simp [Op.bytesLess] at h1
  | [], _ :: _, _ :: _, _, _ => rfl
  | a :: x, b :: y, c :: z, h1, h2 => by
    simp only [Op.bytesLess, Bool.or_eq_true, decide_eq_true_eq, Bool.and_eq_true, beq_iff_eq] at h1 h2 ⊢
    rcases h1 with h1 | ⟨rfl, h1⟩ <;> rcases h2 with h2 | ⟨rfl, h2⟩
    · exact .inl (UInt8.lt_trans h1 h2)
    · exact .inl h1
    · exact .inl h2
    · exact .inr ⟨rfl, bl_trans x y z h1 h2⟩
theorem bl_total : ∀ x y : List UInt8, Op.bytesLess x y = false → Op.bytesLess y x = false → x = y
  | [], [], _, _ => rfl
  | [], _ :: _, h, _ => by simp [Op.bytesLess] at h
  | _ :: _, [], _, h => by simp [Op.bytesLess] at h
  | a :: x, b :: y, h1, h2 => by
    simp only [Op.bytesLess, Bool.or_eq_false_iff, decide_eq_false_iff_not, Bool.and_eq_false_iff, beq_eq_false_iff_ne] at h1 h2
    have hab : a = b := by
      have h3 := h1.1
      have h4 := h2.1
      simp only [UInt8.not_lt] at h3 h4
      exact UInt8.le_antisymm h4 h3
    subst hab
    have e1 : Op.bytesLess x y = false := h1.2.resolve_left (by simp)
    have e2 : Op.bytesLess y x = false := h2.2.resolve_left (by simp)
    rw [bl_total x y e1 e2]
theorem oOrd : Ord oLt := ⟨fun x => bl_irr _, fun x y z => bl_trans _ _ _, fun x y z h1 h2 => by
  cases h : oLt x z with
  | false => rfl
  | true =>
    cases h3 : oLt y x with
    | true => have := bl_trans _ _ _ h3 h; rw [show Op.bytesLess y.mod.data.toList z.mod.data.toList = oLt y z from rfl, h2] at this; cases this
    | false =>
      have := bl_total _ _ h1 h3
      have h4 : oLt y z = true := by show Op.bytesLess y.mod.data.toList z.mod.data.toList = true; rw [← this]; exact h
      rw [h2] at h4; cases h4⟩
end Go.Proofs.Ytfihpghhngfelaa.Lk
