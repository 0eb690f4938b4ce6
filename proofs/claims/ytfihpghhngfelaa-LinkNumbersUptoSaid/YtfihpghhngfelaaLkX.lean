/- foundryref18.sorted. Conditions: none (definitions and lemmas). -/
import Derived.Test.YtfihpghhngfelaaLkU
namespace Go.Proofs.Ytfihpghhngfelaa.Lk
open Go Go.Proofs Go.Proofs.Ytfihpghhngfelaa.Ev
set_option maxRecDepth 100000
set_option linter.unusedVariables false
set_option linter.unusedSimpArgs false

theorem cmpS_gt (a b : ByteArray) : (cmpS a b > 0) ↔ strLt b a = true := by
  have O := oOrd
  unfold cmpS
  cases h1 : strLt a b with
  | true =>
    simp only [if_true]
    constructor
    · intro h; omega
    · intro h
      have := O.asym (x := ⟨a, none, none, none⟩) (y := ⟨b, none, none, none⟩) h1
      have h2 : strLt b a = false := this
      rw [h] at h2; cases h2
  | false =>
    simp only [Bool.false_eq_true, if_false, Bool.false_or]
    cases h2 : strEq a b with
    | true =>
      simp only [Bool.not_true, Bool.false_eq_true, if_false]
      constructor
      · intro h; omega
      · intro h
        have e : a.data.toList = b.data.toList := by simpa [strEq] using h2
        unfold strLt at h
        rw [e, bl_irr] at h
        cases h
    | false =>
      simp only [Bool.not_false, if_true]
      constructor
      · intro _
        cases h3 : strLt b a with
        | true => rfl
        | false =>
          have := bl_total _ _ h1 h3
          simp [strEq, this] at h2
      · intro _; omega
theorem snoc_of {α : Type} {l : List α} (h : 0 < l.length) : ∃ l' y, l = l' ++ [y] := by
  rcases List.eq_nil_or_concat l with e | ⟨l', y, e⟩
  · rw [e] at h; simp at h
  · exact ⟨l', y, by rw [e, List.concat_eq_append]⟩
theorem refSorted_ok (o : Option (List DObj)) (hl : (ls o).length ≤ Lim) (hmod : ∀ x ∈ ls o, x.mod.size ≤ Lim) : OrcAt Try.prog 20 [encS encObj o] [] (encS encObj (nz (st oLt (ls o)))) [] 0 := by
  have hLim : Lim = 1048576 := rfl
  have O := oOrd
  refine OrcAt.of_body0 Try.func20 rfl rfl ?_
  refine .seq ?_
  refine gw 53 [] [(0, encS encObj o)] [] trivial (by kernel_rfl) ?_
  refine .seq ?_
  refine gw 53 [] [(0, encS encObj o), (3, .nils)] [] trivial (by kernel_rfl) ?_
  refine .seq ?_
  refine .seq ?_
  refine gw 53 [] [(0, encS encObj o), (3, .nils), (4, iN 0)] [] trivial (by kernel_rfl) ?_
  refine .blk ?_
  refine .loopG (fun mu s => ∃ i z, mu = (ls o).length - i ∧ (i ≤ (ls o).length) ∧ (ls z = st oLt ((ls o).take i)) ∧ (z = nz (ls z)) ∧ s = ⟨sp 53 [(0, encS encObj o), (3, encS encObj z), (4, iN i)], [], 0⟩) ((ls o).length) ⟨⟨sp 53 [(0, encS encObj o), (3, encS encObj none), (4, iN 0)], [], 0⟩, Pln.ofT [] (by decide) rfl trivial ⟨⟨_, rfl, kObj.clS _ _ _ _⟩, ⟨_, rfl, .nils⟩, ⟨_, rfl, .int _ _⟩, trivial⟩, 0, none, rfl, Nat.zero_le _, rfl, rfl, rfl⟩ ?_
  rintro mu s ⟨i, z, rfl, hi, hz, hzn, rfl⟩
  refine .seq ?_
  refine .seq ?_
  refine gw 53 [(2, hLen 0 (encS encObj o) (ls o).length), (3, hBin 0 (iN i) (iN ((ls o).length)) (.bool (decide (i < (ls o).length))))] [(0, encS encObj o), (3, encS encObj z), (4, iN i), (10, .bool (decide (i < (ls o).length)))] [] ⟨good_len T22.hu, good_bin (cmpLss rfl), trivial⟩ (by kernel_rfl) ?_
  by_cases hlt : i < (ls o).length
  · skip
    refine .condT hlt rfl ?_
    obtain ⟨x, hx⟩ : ∃ x, (ls o)[i]? = some x := ⟨_, List.getElem?_eq_getElem hlt⟩
    have hxm := hmod x (List.mem_of_getElem? hx)
    have hzl : (ls z).length = i := by rw [hz, st_length, List.length_take]; omega
    have hsrt : Srt oLt (ls z) := by rw [hz]; exact st_srt O _
    refine .skip ?_
    refine .seq ?_
    refine .blk ?_
    refine .seq ?_
    refine gw 53 [(1, hLen 0 (encS encObj z) (ls z).length)] [(0, encS encObj o), (3, encS encObj z), (4, iN i), (5, iN ((ls z).length))] [] ⟨good_len T22.hu, trivial⟩ (by kernel_rfl) ?_
    refine .seq ?_
    refine .blk ?_
    refine .loopG (fun mu s => ∃ k A B, mu = k + 1 ∧ (ls z = A ++ B) ∧ (k = A.length) ∧ (∀ w ∈ B, oLt x w = true) ∧ s = ⟨sp 53 [(0, encS encObj o), (3, encS encObj z), (4, iN i), (5, iN k)], [], 0⟩) ((ls z).length + 1) ⟨⟨sp 53 [(0, encS encObj o), (3, encS encObj z), (4, iN i), (5, iN ((ls z).length))], [], 0⟩, Pln.ofT [] (by decide) rfl trivial ⟨⟨_, rfl, kObj.clS _ _ _ _⟩, ⟨_, rfl, kObj.clS _ _ _ _⟩, ⟨_, rfl, .int _ _⟩, ⟨_, rfl, .int _ _⟩, trivial⟩, ((ls z).length), (ls z), [], rfl, by simp, rfl, by simp, rfl⟩ ?_
    rintro mu s ⟨k, A, B, rfl, hAB, hk, hB, rfl⟩
    have hkl : k + B.length = i := by rw [← hzl, hAB, List.length_append, hk]
    by_cases hk0 : k > 0
    · skip
      obtain ⟨A', y, hAy⟩ := snoc_of (l := A) (by omega)
      have hy : (ls z)[k - 1]? = some y := by rw [hAB, hAy, List.append_assoc]; exact getL (by rw [hAy] at hk; simp at hk; omega)
      have hyx : y ∈ ls o := by have := List.mem_of_getElem? hy; rw [hz] at this; exact List.mem_of_mem_take ((st_mem O).1 this)
      have hym := hmod y hyx
      by_cases hc : (cmpS y.mod x.mod) > 0
      · skip
        refine .seq ?_
        refine .seq ?_
        refine .go E0_ok (pureOrc_ok (refCmp_ok y.mod x.mod hym hxm) (.cons .str (.cons .str (.nil))) .int) mix0 53 [(1, hBin 0 (iN k) (iN 0) (.bool true)), (5, hBin 0 (iN k) (iN 1) (iN (k - 1))), (6, hIdxE 0 encObj z (k - 1) y), (11, hIdxE 0 encObj o (i) x), (14, hCall 0 40 [.str y.mod, .str x.mod] (.int .i64 (cmpS y.mod x.mod))), (15, hBin 0 (.int .i64 (cmpS y.mod x.mod)) (iN 0) (.bool true))] [(0, encS encObj o), (3, encS encObj z), (4, iN i), (5, iN k), (31, .bool true)] [] 0 ⟨good_bin (cmpGtr (decide_eq_true hk0)), good_bin (subN (by omega) (by omega)), good_idxE T22.hu T22.hs kObj hy, good_idxE T22.hu T22.hs kObj hx, good_call rfl rfl, good_bin (icGtr (decide_eq_true hc)), trivial⟩ (by kernel_rfl) ?_
        refine .cond (b := true) rfl ?_
        refine .skip ?_
        refine .blk ?_
        refine gw 53 [(1, hBin 0 (iN k) (iN 1) (iN (k - 1)))] [(0, encS encObj o), (3, encS encObj z), (4, iN i), (5, iN (k - 1))] [] ⟨good_bin (subN (by omega) (by omega)), trivial⟩ (by kernel_rfl) ?_
        exact ⟨⟨sp 53 [(0, encS encObj o), (3, encS encObj z), (4, iN i), (5, iN (k - 1))], [], 0⟩, Pln.ofT [] (by decide) rfl trivial ⟨⟨_, rfl, kObj.clS _ _ _ _⟩, ⟨_, rfl, kObj.clS _ _ _ _⟩, ⟨_, rfl, .int _ _⟩, ⟨_, rfl, .int _ _⟩, trivial⟩, k - 1 + 1, by omega, (k - 1), A', (y :: B), rfl, by rw [hAB, hAy]; simp, by rw [hk, hAy]; simp, List.forall_mem_cons.2 ⟨(cmpS_gt _ _).1 hc, hB⟩, rfl⟩
      · skip
        have hA : ∀ w ∈ A, oLt x w = false := by rw [hAy]; exact srt_last O (by rw [hAB, hAy] at hsrt; exact (List.pairwise_append.1 hsrt).1) (by cases h : oLt x y with | false => rfl | true => exact absurd ((cmpS_gt _ _).2 h) hc)
        refine .seq ?_
        refine .seq ?_
        refine .go E0_ok (pureOrc_ok (refCmp_ok y.mod x.mod hym hxm) (.cons .str (.cons .str (.nil))) .int) mix0 53 [(1, hBin 0 (iN k) (iN 0) (.bool true)), (5, hBin 0 (iN k) (iN 1) (iN (k - 1))), (6, hIdxE 0 encObj z (k - 1) y), (11, hIdxE 0 encObj o (i) x), (14, hCall 0 40 [.str y.mod, .str x.mod] (.int .i64 (cmpS y.mod x.mod))), (15, hBin 0 (.int .i64 (cmpS y.mod x.mod)) (iN 0) (.bool false))] [(0, encS encObj o), (3, encS encObj z), (4, iN i), (5, iN k), (31, .bool false)] [] 0 ⟨good_bin (cmpGtr (decide_eq_true hk0)), good_bin (subN (by omega) (by omega)), good_idxE T22.hu T22.hs kObj hy, good_idxE T22.hu T22.hs kObj hx, good_call rfl rfl, good_bin (icGtr (decide_eq_false hc)), trivial⟩ (by kernel_rfl) ?_
        refine .cond (b := false) rfl ?_
        refine .exit ⟨fun _ => ?_, fun h => absurd rfl h⟩
        have hins : st oLt ((ls o).take (i + 1)) = A ++ x :: B := by rw [tk_succ hx, st_snoc, ← hz, hAB, ins_eq hA hB]
        have hsH : ∀ h : Heap, srcA h 4 (slcV encObj 4 z 0 k) = some (encL encObj A, k, []) := fun h => by rw [slcV_src kObj (Nat.zero_le _) (by omega), hAB, hk]; simp
        have hsL : ∀ h : Heap, srcA h 4 (slcV encObj 4 z k (ls z).length) = some (encL encObj B, B.length, []) := fun h => by rw [slcV_src kObj (by omega) (Nat.le_refl _), hAB, hk]; simp
        have hnz : nz (A ++ x :: B) = some (A ++ x :: B) := nz_ne (by simp)
        refine .seq ?_
        refine gw 53 [] [(0, encS encObj o), (3, encS encObj z), (4, iN i), (5, iN k), (6, .nils)] [] trivial (by kernel_rfl) ?_
        refine .seq ?_
        refine gw 53 [(3, hSlH 0 encObj 4 z k), (4, hAppNil 0 4 38 (slcV encObj 4 z 0 k) (encL encObj A) k [] [])] [(0, encS encObj o), (3, encS encObj z), (4, iN i), (5, iN k), (6, .sl 0 0 k k false 4)] [.cells (encL encObj A) 38] ⟨good_slH T22.hu T22.hs (by omega), good_appNil T22 rfl rfl rfl rfl rfl (fun h _ => hsH h) (by omega) (by omega), trivial⟩ (by kernel_rfl) ?_
        refine .seq ?_
        refine gw 53 [(3, hIdxE 1 encObj o (i) x), (6, hApp 2 0 k 4 false (encL encObj A) 38 (.sl 1 0 1 1 true 4) (encObj x) 1 [1] [(1, .cells (encObj x) 38)])] [(0, encS encObj o), (3, encS encObj z), (4, iN i), (5, iN k), (6, .sl 2 0 (k + 1) (k + 1) false 4)] [.dead, .cells (encObj x) 38, .cells ((encL encObj A) ++ [.str x.mod, encS encVar x.vars, encS encFnN x.fns, encS encRel x.rels]) 38] ⟨good_idxE T22.hu T22.hs kObj hx, good_app T22 rfl rfl rfl rfl rfl (fun h hh => srcA_sl (hh _ List.mem_cons_self) rfl) (.inl rfl) (by rw [kObj.length, hk]) (kObj.leaf x) (by omega), trivial⟩ (by kernel_rfl) ?_
        refine .seq ?_
        refine gw 53 [(3, hSlL 3 encObj 4 z k), (4, hApp 3 2 (k + 1) 4 false ((encL encObj A) ++ [.str x.mod, encS encVar x.vars, encS encFnN x.fns, encS encRel x.rels]) 38 (slcV encObj 4 z k (ls z).length) (encL encObj B) B.length [] [])] [(0, encS encObj o), (4, iN i), (6, .sl 3 0 (k + 1 + B.length) (k + 1 + B.length) false 4)] [.dead, .cells (encObj x) 38, .dead, .cells ((encL encObj A) ++ [.str x.mod, encS encVar x.vars, encS encFnN x.fns, encS encRel x.rels] ++ (encL encObj B)) 38] ⟨good_slL T22.hu T22.hs (by omega), good_app T22 rfl rfl rfl rfl rfl (fun h _ => hsL h) (.inl rfl) (by rw [List.length_append, kObj.length, ← hk]; show k * 4 + 4 = (k + 1) * 4; omega) (kObj.leafs _) (by omega), trivial⟩ (by kernel_rfl) ?_
        refine gw 53 [] [(0, encS encObj o), (3, .sl 3 0 (k + 1 + B.length) (k + 1 + B.length) false 4), (4, iN i)] [.dead, .cells (encObj x) 38, .dead, .cells ((encL encObj A) ++ [.str x.mod, encS encVar x.vars, encS encFnN x.fns, encS encRel x.rels] ++ (encL encObj B)) 38] trivial (by kernel_rfl) ?_
        refine gw 53 [(1, hBin 4 (iN i) (iN 1) (iN (i + 1)))] [(0, encS encObj o), (3, .sl 3 0 (k + 1 + B.length) (k + 1 + B.length) false 4), (4, iN (i + 1))] [.dead, .cells (encObj x) 38, .dead, .cells ((encL encObj A) ++ [.str x.mod, encS encVar x.vars, encS encFnN x.fns, encS encRel x.rels] ++ (encL encObj B)) 38] ⟨good_bin (addN (by omega)), trivial⟩ (by kernel_rfl) ?_
        exact ⟨⟨sp 53 [(0, encS encObj o), (3, encS encObj (nz (A ++ x :: B))), (4, iN (i + 1))], [], 0⟩, Pln.ofT [] (by decide) rfl trivial ⟨⟨_, rfl, kObj.clS _ _ _ _⟩, ⟨_, rfl, by rw [hnz]; show Frz _ _ _ _ (.vsl (encL encObj (A ++ x :: B)) (A ++ x :: B).length none); rw [encL_append, encL_cons, ← List.append_assoc, show (A ++ x :: B).length = k + 1 + B.length by rw [List.length_append, List.length_cons, hk]; omega]; exact .slAll (Nat.zero_le _) (by decide) rfl (((kObj.cls _).append (kObj.cl x)).append (kObj.cls _)).frzs⟩, ⟨_, rfl, .int _ _⟩, trivial⟩, (ls o).length - (i + 1), by omega, (i + 1), (nz (A ++ x :: B)), rfl, by omega, by rw [ls_nz, hins], by rw [ls_nz], rfl⟩
    · skip
      have hA : ∀ w ∈ A, oLt x w = false := by rw [List.length_eq_zero_iff.1 (by omega : A.length = 0)]; intro w hw; cases hw
      refine .seq ?_
      refine .seq ?_
      refine gw 53 [(1, hBin 0 (iN k) (iN 0) (.bool false))] [(0, encS encObj o), (3, encS encObj z), (4, iN i), (5, iN k), (31, .bool false)] [] ⟨good_bin (cmpGtr (decide_eq_false hk0)), trivial⟩ (by kernel_rfl) ?_
      refine .cond (b := false) rfl ?_
      refine .exit ⟨fun _ => ?_, fun h => absurd rfl h⟩
      have hins : st oLt ((ls o).take (i + 1)) = A ++ x :: B := by rw [tk_succ hx, st_snoc, ← hz, hAB, ins_eq hA hB]
      have hsH : ∀ h : Heap, srcA h 4 (slcV encObj 4 z 0 k) = some (encL encObj A, k, []) := fun h => by rw [slcV_src kObj (Nat.zero_le _) (by omega), hAB, hk]; simp
      have hsL : ∀ h : Heap, srcA h 4 (slcV encObj 4 z k (ls z).length) = some (encL encObj B, B.length, []) := fun h => by rw [slcV_src kObj (by omega) (Nat.le_refl _), hAB, hk]; simp
      have hnz : nz (A ++ x :: B) = some (A ++ x :: B) := nz_ne (by simp)
      have hA0 : A = [] := List.length_eq_zero_iff.1 (by omega)
      refine .seq ?_
      refine gw 53 [] [(0, encS encObj o), (3, encS encObj z), (4, iN i), (5, iN k), (6, .nils)] [] trivial (by kernel_rfl) ?_
      refine .seq ?_
      refine gw 53 [(3, hSlH 0 encObj 4 z k), (4, hAppNil0 0 (slcV encObj 4 z 0 k) [] [])] [(0, encS encObj o), (3, encS encObj z), (4, iN i), (5, iN k), (6, .nils)] [] ⟨good_slH T22.hu T22.hs (by omega), good_appNil0 T22 rfl rfl rfl rfl rfl (fun h _ => by rw [hsH h, hA0, show k = 0 by omega]; rfl), trivial⟩ (by kernel_rfl) ?_
      refine .seq ?_
      refine gw 53 [(3, hIdxE 0 encObj o (i) x), (6, hAppNil 1 4 38 (.sl 0 0 1 1 true 4) (encObj x) 1 [0] [(0, .cells (encObj x) 38)])] [(0, encS encObj o), (3, encS encObj z), (4, iN i), (5, iN k), (6, .sl 1 0 1 1 false 4)] [.cells (encObj x) 38, .cells (encObj x) 38] ⟨good_idxE T22.hu T22.hs kObj hx, good_appNil T22 rfl rfl rfl rfl rfl (fun h hh => srcA_sl (hh _ List.mem_cons_self) rfl) (by omega) (by omega), trivial⟩ (by kernel_rfl) ?_
      refine .seq ?_
      refine gw 53 [(3, hSlL 2 encObj 4 z k), (4, hApp 2 1 1 4 false (encObj x) 38 (slcV encObj 4 z k (ls z).length) (encL encObj B) B.length [] [])] [(0, encS encObj o), (4, iN i), (6, .sl 2 0 (1 + B.length) (1 + B.length) false 4)] [.cells (encObj x) 38, .dead, .cells ([.str x.mod, encS encVar x.vars, encS encFnN x.fns, encS encRel x.rels] ++ (encL encObj B)) 38] ⟨good_slL T22.hu T22.hs (by omega), good_app T22 rfl rfl rfl rfl rfl (fun h _ => hsL h) (.inl rfl) (rfl) (kObj.leafs _) (by omega), trivial⟩ (by kernel_rfl) ?_
      refine gw 53 [] [(0, encS encObj o), (3, .sl 2 0 (1 + B.length) (1 + B.length) false 4), (4, iN i)] [.cells (encObj x) 38, .dead, .cells ([.str x.mod, encS encVar x.vars, encS encFnN x.fns, encS encRel x.rels] ++ (encL encObj B)) 38] trivial (by kernel_rfl) ?_
      refine gw 53 [(1, hBin 3 (iN i) (iN 1) (iN (i + 1)))] [(0, encS encObj o), (3, .sl 2 0 (1 + B.length) (1 + B.length) false 4), (4, iN (i + 1))] [.cells (encObj x) 38, .dead, .cells ([.str x.mod, encS encVar x.vars, encS encFnN x.fns, encS encRel x.rels] ++ (encL encObj B)) 38] ⟨good_bin (addN (by omega)), trivial⟩ (by kernel_rfl) ?_
      exact ⟨⟨sp 53 [(0, encS encObj o), (3, encS encObj (nz (A ++ x :: B))), (4, iN (i + 1))], [], 0⟩, Pln.ofT [] (by decide) rfl trivial ⟨⟨_, rfl, kObj.clS _ _ _ _⟩, ⟨_, rfl, by rw [hnz, hA0]; show Frz _ _ _ _ (.vsl (encObj x ++ encL encObj B) (x :: B).length none); rw [show (x :: B).length = 1 + B.length from Nat.add_comm _ _]; exact .slAll (Nat.zero_le _) (by decide) rfl ((kObj.cl x).append (kObj.cls _)).frzs⟩, ⟨_, rfl, .int _ _⟩, trivial⟩, (ls o).length - (i + 1), by omega, (i + 1), (nz (A ++ x :: B)), rfl, by omega, by rw [ls_nz, hins], by rw [ls_nz], rfl⟩
  · skip
    refine .condF hlt rfl ?_
    refine .exit ⟨fun _ => ?_, fun h => absurd rfl h⟩
    rw [List.take_of_length_le (by omega)] at hz
    rw [← hz, ← hzn]
    refine .seq ?_
    refine gw 53 [] [(2, encS encObj z)] [] trivial (by kernel_rfl) ?_
    refine .ret ?_
    exact ⟨.inr rfl, [encS encObj z], by kernel_rfl, kObj.clS _ _ _ _⟩
end Go.Proofs.Ytfihpghhngfelaa.Lk

