/- foundryref04.Cmp. Conditions: none (definitions and lemmas). -/
import Derived.Test.YtfihpghhngfelaaLkT
namespace Go.Proofs.Ytfihpghhngfelaa.Lk
open Go Go.Proofs Go.Proofs.Ytfihpghhngfelaa.Ev
set_option maxRecDepth 100000
set_option linter.unusedVariables false
set_option linter.unusedSimpArgs false

theorem size_len (s : ByteArray) : s.data.toList.length = s.size := by rw [Array.length_toList]; rfl
theorem byteAt_of {s : ByteArray} {i : Nat} {x : UInt8} (h : s.data.toList[i]? = some x) : byteAt s i = (x.toNat : Int) := by simp [byteAt, h]
theorem cut_of {α : Type} {l : List α} {i : Nat} {x : α} (h : l[i]? = some x) : l = l.take i ++ x :: l.drop (i + 1) := by
  obtain ⟨h1, rfl⟩ := List.getElem?_eq_some_iff.1 h
  simp
section
variable {a b : ByteArray} {i : Nat}
theorem cmp_at (hp : a.data.toList.take i = b.data.toList.take i) (ha : i < a.size) (hb : i < b.size) : ∃ x y, a.data.toList[i]? = some x ∧ b.data.toList[i]? = some y ∧ byteAt a i = (x.toNat : Int) ∧ byteAt b i = (y.toNat : Int) ∧
    strLt a b = (decide (x < y) || (x == y && Op.bytesLess (a.data.toList.drop (i + 1)) (b.data.toList.drop (i + 1)))) ∧ (x ≠ y → strEq a b = false) := by
  obtain ⟨x, hx⟩ : ∃ x, a.data.toList[i]? = some x := ⟨_, List.getElem?_eq_getElem (by rw [size_len]; exact ha)⟩
  obtain ⟨y, hy⟩ : ∃ y, b.data.toList[i]? = some y := ⟨_, List.getElem?_eq_getElem (by rw [size_len]; exact hb)⟩
  refine ⟨x, y, hx, hy, byteAt_of hx, byteAt_of hy, ?_, fun hne => ?_⟩
  · unfold strLt
    have ea := cut_of hx
    have eb := cut_of hy
    rw [hp] at ea
    refine (congr (congrArg Op.bytesLess ea) eb).trans ?_
    rw [bytesLess_pre]
    simp [Op.bytesLess]
  · unfold strEq
    rw [beq_eq_false_iff_ne]
    intro h
    rw [h, hy] at hx
    exact hne (Option.some.inj hx).symm
theorem cmp_lt' (hp : a.data.toList.take i = b.data.toList.take i) (ha : i < a.size) (hb : i < b.size) (h : (byteAt a i) < (byteAt b i)) : cmpS a b = -1 := by
  obtain ⟨x, y, hx, hy, e1, e2, e3, _⟩ := cmp_at hp ha hb
  rw [e1, e2] at h
  have hlt : x < y := by rw [UInt8.lt_iff_toNat_lt]; omega
  have : strLt a b = true := by rw [e3]; simp [hlt]
  simp [cmpS, this]
theorem cmp_gt' (hp : a.data.toList.take i = b.data.toList.take i) (ha : i < a.size) (hb : i < b.size) (h : (byteAt a i) > (byteAt b i)) : cmpS a b = 1 := by
  obtain ⟨x, y, hx, hy, e1, e2, e3, e4⟩ := cmp_at hp ha hb
  rw [e1, e2] at h
  have hlt : ¬ x < y := by rw [UInt8.lt_iff_toNat_lt]; omega
  have hne : x ≠ y := fun e => by rw [e] at h; omega
  have h1 : strLt a b = false := by rw [e3]; simp [hlt, hne]
  simp [cmpS, h1, e4 hne]
theorem cmp_eq' (hp : a.data.toList.take i = b.data.toList.take i) (ha : i < a.size) (hb : i < b.size) (h1 : ¬ (byteAt a i) < (byteAt b i)) (h2 : ¬ (byteAt a i) > (byteAt b i)) : a.data.toList.take (i + 1) = b.data.toList.take (i + 1) := by
  obtain ⟨x, y, hx, hy, e1, e2, e3, e4⟩ := cmp_at hp ha hb
  rw [e1, e2] at h1 h2
  have : x = y := UInt8.toNat_inj.1 (by omega)
  rw [List.take_add_one, List.take_add_one, hx, hy, hp, this]
theorem cmp_end (hp : a.data.toList.take i = b.data.toList.take i) (h : i ≤ a.size ∧ i ≤ b.size) (he : ¬ (i < a.size ∧ i < b.size)) : (a.size < b.size → cmpS a b = -1) ∧ (a.size > b.size → cmpS a b = 1) ∧ (¬ a.size < b.size → ¬ a.size > b.size → cmpS a b = 0) := by
  refine ⟨fun hl => ?_, fun hl => ?_, fun h1 h2 => ?_⟩
  · have hi : i = a.size := by omega
    have hA : a.data.toList = b.data.toList.take i := by rw [← hp, List.take_of_length_le (by rw [size_len]; omega)]
    obtain ⟨y, hy⟩ : ∃ y, b.data.toList[i]? = some y := ⟨_, List.getElem?_eq_getElem (by rw [size_len]; omega)⟩
    have : strLt a b = true := by
      unfold strLt
      have e2 : Op.bytesLess (b.data.toList.take i ++ []) (b.data.toList.take i ++ y :: b.data.toList.drop (i + 1)) = true := by rw [bytesLess_pre]; rfl
      rw [List.append_nil, ← cut_of hy, ← hA] at e2
      exact e2
    simp [cmpS, this]
  · have hi : i = b.size := by omega
    have hB : b.data.toList = a.data.toList.take i := by rw [hp, List.take_of_length_le (by rw [size_len]; omega)]
    obtain ⟨y, hy⟩ : ∃ y, a.data.toList[i]? = some y := ⟨_, List.getElem?_eq_getElem (by rw [size_len]; omega)⟩
    have h1 : strLt a b = false := by
      unfold strLt
      have e2 : Op.bytesLess (a.data.toList.take i ++ y :: a.data.toList.drop (i + 1)) (a.data.toList.take i ++ []) = false := by rw [bytesLess_pre]; rfl
      rw [List.append_nil, ← cut_of hy, ← hB] at e2
      exact e2
    have h2 : strEq a b = false := by
      unfold strEq
      rw [beq_eq_false_iff_ne]
      intro e
      have := congrArg List.length e
      rw [size_len, size_len] at this
      omega
    simp [cmpS, h1, h2]
  · have e1 : a.data.toList = b.data.toList := by
      have k1 := List.take_of_length_le (l := a.data.toList) (i := i) (by rw [size_len]; omega)
      have k2 := List.take_of_length_le (l := b.data.toList) (i := i) (by rw [size_len]; omega)
      rw [← k1, ← k2, hp]
    have h1 : strEq a b = true := by unfold strEq; rw [e1]; simp
    have h2 : strLt a b = false := by unfold strLt; rw [e1]; exact bl_irr _
    simp [cmpS, h1, h2]
end
theorem refCmp_ok (a b : ByteArray) (hal : a.size ≤ Lim) (hbl : b.size ≤ Lim) : OrcAt Try.prog 40 [.str a, .str b] [] (.int .i64 (cmpS a b)) [] 0 := by
  have hLim : Lim = 1048576 := rfl
  refine OrcAt.of_body0 Try.func40 rfl rfl ?_
  refine .seq ?_
  refine gw 42 [] [(0, .str a), (1, .str b)] [] trivial (by kernel_rfl) ?_
  refine .seq ?_
  refine .seq ?_
  refine gw 42 [] [(0, .str a), (1, .str b), (5, iN 0)] [] trivial (by kernel_rfl) ?_
  refine .blk ?_
  refine .loopG (fun mu sst => ∃ i, mu = a.size - i ∧ (i ≤ a.size) ∧ (i ≤ b.size) ∧ (a.data.toList.take i = b.data.toList.take i) ∧ sst = ⟨sp 42 [(0, .str a), (1, .str b), (5, iN i)], [], 0⟩) (a.size) ⟨⟨sp 42 [(0, .str a), (1, .str b), (5, iN 0)], [], 0⟩, Pln.ofT [] (by decide) rfl trivial ⟨⟨_, rfl, .str _⟩, ⟨_, rfl, .str _⟩, ⟨_, rfl, .int _ _⟩, trivial⟩, 0, rfl, Nat.zero_le _, Nat.zero_le _, rfl, rfl⟩ ?_
  rintro mu sst ⟨i, rfl, hi1, hi2, hp, rfl⟩
  by_cases h1 : i < a.size
  · skip
    by_cases h2 : i < b.size
    · skip
      refine .seq ?_
      refine .seq ?_
      refine gw 42 [(3, hBin 0 (iN i) (iN a.size) (.bool true)), (8, hBin 0 (iN i) (iN b.size) (.bool true))] [(0, .str a), (1, .str b), (5, iN i), (15, .bool true)] [] ⟨good_bin (cmpLss (decide_eq_true h1)), good_bin (cmpLss (decide_eq_true h2)), trivial⟩ (by kernel_rfl) ?_
      refine .cond (b := true) rfl ?_
      refine .skip ?_
      refine .seq ?_
      refine .blk ?_
      refine .seq ?_
      refine .seq ?_
      refine gw 42 [(2, hIxS 0 a i), (5, hIxS 0 b i)] [(0, .str a), (1, .str b), (5, iN i), (24, .bool (decide ((byteAt a i) < (byteAt b i))))] [] ⟨good_ixS rfl (by omega), good_ixS rfl (by omega), trivial⟩ (by kernel_rfl) ?_
      by_cases h3 : (byteAt a i) < (byteAt b i)
      · skip
        refine .condT h3 rfl ?_
        refine .seq ?_
        refine gw 42 [] [(4, .int .i64 (-1))] [] trivial (by kernel_rfl) ?_
        refine .ret ?_
        rw [cmp_lt' hp h1 h2 h3]
        exact ⟨.inr rfl, [.int .i64 (-1)], by kernel_rfl, .int _ _⟩
      · skip
        refine .condF h3 rfl ?_
        refine .skip ?_
        refine .seq ?_
        refine gw 42 [(2, hIxS 0 a i), (5, hIxS 0 b i)] [(0, .str a), (1, .str b), (5, iN i), (31, .bool (decide ((byteAt a i) > (byteAt b i))))] [] ⟨good_ixS rfl (by omega), good_ixS rfl (by omega), trivial⟩ (by kernel_rfl) ?_
        by_cases h4 : (byteAt a i) > (byteAt b i)
        · skip
          refine .condT h4 rfl ?_
          refine .seq ?_
          refine gw 42 [] [(4, iN 1)] [] trivial (by kernel_rfl) ?_
          refine .ret ?_
          rw [cmp_gt' hp h1 h2 h4]
          exact ⟨.inr rfl, [iN 1], by kernel_rfl, .int _ _⟩
        · skip
          refine .condF h4 rfl ?_
          refine .skip ?_
          refine gw 42 [(1, hBin 0 (iN i) (iN 1) (iN (i + 1)))] [(0, .str a), (1, .str b), (5, iN (i + 1))] [] ⟨good_bin (addN (by omega)), trivial⟩ (by kernel_rfl) ?_
          exact ⟨⟨sp 42 [(0, .str a), (1, .str b), (5, iN (i + 1))], [], 0⟩, Pln.ofT [] (by decide) rfl trivial ⟨⟨_, rfl, .str _⟩, ⟨_, rfl, .str _⟩, ⟨_, rfl, .int _ _⟩, trivial⟩, a.size - (i + 1), by omega, (i + 1), rfl, by omega, by omega, cmp_eq' hp h1 h2 h3 h4, rfl⟩
    · skip
      have hne : ¬ (i < a.size ∧ i < b.size) := fun h => h2 h.2
      refine .seq ?_
      refine .seq ?_
      refine gw 42 [(3, hBin 0 (iN i) (iN a.size) (.bool true)), (8, hBin 0 (iN i) (iN b.size) (.bool false))] [(0, .str a), (1, .str b), (5, iN i), (15, .bool false)] [] ⟨good_bin (cmpLss (decide_eq_true h1)), good_bin (cmpLss (decide_eq_false h2)), trivial⟩ (by kernel_rfl) ?_
      refine .cond (b := false) rfl ?_
      refine .exit ⟨fun _ => ?_, fun h => absurd rfl h⟩
      have hend := cmp_end hp ⟨hi1, hi2⟩ hne
      refine .seq ?_
      refine .seq ?_
      refine gw 42 [(4, hBin 0 (iN a.size) (iN b.size) (.bool (decide (a.size < b.size))))] [(0, .str a), (1, .str b), (36, .bool (decide (a.size < b.size)))] [] ⟨good_bin (cmpLss rfl), trivial⟩ (by kernel_rfl) ?_
      by_cases hs1 : a.size < b.size
      · skip
        refine .condT hs1 rfl ?_
        refine .seq ?_
        refine gw 42 [] [(4, .int .i64 (-1))] [] trivial (by kernel_rfl) ?_
        refine .ret ?_
        rw [hend.1 hs1]
        exact ⟨.inr rfl, [.int .i64 (-1)], by kernel_rfl, .int _ _⟩
      · skip
        refine .condF hs1 rfl ?_
        refine .skip ?_
        refine .seq ?_
        refine .seq ?_
        refine gw 42 [(4, hBin 0 (iN a.size) (iN b.size) (.bool (decide (a.size > b.size))))] [(41, .bool (decide (a.size > b.size)))] [] ⟨good_bin (cmpGtr rfl), trivial⟩ (by kernel_rfl) ?_
        by_cases hs2 : a.size > b.size
        · skip
          refine .condT hs2 rfl ?_
          refine .seq ?_
          refine gw 42 [] [(4, iN 1)] [] trivial (by kernel_rfl) ?_
          refine .ret ?_
          rw [hend.2.1 hs2]
          exact ⟨.inr rfl, [iN 1], by kernel_rfl, .int _ _⟩
        · skip
          refine .condF hs2 rfl ?_
          refine .skip ?_
          refine .seq ?_
          refine gw 42 [] [(4, iN 0)] [] trivial (by kernel_rfl) ?_
          refine .ret ?_
          rw [hend.2.2 hs1 hs2]
          exact ⟨.inr rfl, [iN 0], by kernel_rfl, .int _ _⟩
  · skip
    have hne : ¬ (i < a.size ∧ i < b.size) := fun h => h1 h.1
    refine .seq ?_
    refine .seq ?_
    refine gw 42 [(3, hBin 0 (iN i) (iN a.size) (.bool false))] [(0, .str a), (1, .str b), (5, iN i), (15, .bool false)] [] ⟨good_bin (cmpLss (decide_eq_false h1)), trivial⟩ (by kernel_rfl) ?_
    refine .cond (b := false) rfl ?_
    refine .exit ⟨fun _ => ?_, fun h => absurd rfl h⟩
    have hend := cmp_end hp ⟨hi1, hi2⟩ hne
    refine .seq ?_
    refine .seq ?_
    refine gw 42 [(4, hBin 0 (iN a.size) (iN b.size) (.bool (decide (a.size < b.size))))] [(0, .str a), (1, .str b), (36, .bool (decide (a.size < b.size)))] [] ⟨good_bin (cmpLss rfl), trivial⟩ (by kernel_rfl) ?_
    by_cases hs1 : a.size < b.size
    · skip
      refine .condT hs1 rfl ?_
      refine .seq ?_
      refine gw 42 [] [(4, .int .i64 (-1))] [] trivial (by kernel_rfl) ?_
      refine .ret ?_
      rw [hend.1 hs1]
      exact ⟨.inr rfl, [.int .i64 (-1)], by kernel_rfl, .int _ _⟩
    · skip
      refine .condF hs1 rfl ?_
      refine .skip ?_
      refine .seq ?_
      refine .seq ?_
      refine gw 42 [(4, hBin 0 (iN a.size) (iN b.size) (.bool (decide (a.size > b.size))))] [(41, .bool (decide (a.size > b.size)))] [] ⟨good_bin (cmpGtr rfl), trivial⟩ (by kernel_rfl) ?_
      by_cases hs2 : a.size > b.size
      · skip
        refine .condT hs2 rfl ?_
        refine .seq ?_
        refine gw 42 [] [(4, iN 1)] [] trivial (by kernel_rfl) ?_
        refine .ret ?_
        rw [hend.2.1 hs2]
        exact ⟨.inr rfl, [iN 1], by kernel_rfl, .int _ _⟩
      · skip
        refine .condF hs2 rfl ?_
        refine .skip ?_
        refine .seq ?_
        refine gw 42 [] [(4, iN 0)] [] trivial (by kernel_rfl) ?_
        refine .ret ?_
        rw [hend.2.2 hs1 hs2]
        exact ⟨.inr rfl, [iN 0], by kernel_rfl, .int _ _⟩
end Go.Proofs.Ytfihpghhngfelaa.Lk

