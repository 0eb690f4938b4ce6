/- foundryref18.Symbols. Conditions: none (definitions and lemmas). -/
import Derived.Test.YtfihpghhngfelaaLkX
namespace Go.Proofs.Ytfihpghhngfelaa.Lk
open Go Go.Proofs Go.Proofs.Ytfihpghhngfelaa.Ev
set_option maxRecDepth 100000
set_option linter.unusedVariables false
set_option linter.unusedSimpArgs false

theorem refSymbols_ok (o q : Option (List DObj)) (hord : OrcAt Try.prog 20 [encS encObj o] [] (encS encObj q) [] 0) (hl : (ls q).length ≤ Lim) (hV : (pV (ls q)).length ≤ Lim) (hF : (pF (ls q)).length ≤ Lim) (hol : ∀ x ∈ ls q, ObjLim x) :
    OrcAt Try.prog 10 [encS encObj o] [] (encS encSym (nz (symL (ls q)))) [] 0 := by
  have hLim : Lim = 1048576 := rfl
  refine OrcAt.of_body0 Try.func10 rfl rfl ?_
  refine .seq ?_
  refine gw 88 [] [(0, encS encObj o)] [] trivial (by kernel_rfl) ?_
  refine .seq ?_
  refine .go E0_ok (pureOrc_ok (hord) (.cons (.encS imObj _) (.nil)) (.encS imObj _)) mix0 88 [(1, hCall 0 20 [encS encObj o] (encS encObj q))] [(0, encS encObj q)] [] 0 ⟨good_call rfl rfl, trivial⟩ (by kernel_rfl) ?_
  refine .seq ?_
  refine gw 88 [] [(0, encS encObj q), (3, .nils)] [] trivial (by kernel_rfl) ?_
  refine .seq ?_
  refine .seq ?_
  refine gw 88 [] [(0, encS encObj q), (3, .nils), (4, iN 0)] [] trivial (by kernel_rfl) ?_
  refine .blk ?_
  refine .loopG (fun mu s => ∃ i n A, mu = (ls q).length - i ∧ (i ≤ (ls q).length) ∧ (n = A.length) ∧ (A = pV ((ls q).take i)) ∧ s = ⟨sp 88 [(0, encS encObj q), (3, slV n 0 4), (4, iN i)], [blkV n (encL encSym (sK 1 A)) 31], 0⟩) ((ls q).length) ⟨⟨sp 88 [(0, encS encObj q), (3, slV 0 0 4), (4, iN 0)], [blkV 0 (encL encSym (sK 1 [])) 31], 0⟩, Pln.ofT [7] (by decide) rfl ⟨.inr ⟨by decide, rfl⟩, trivial⟩ ⟨⟨_, rfl, kObj.clS _ _ _ _⟩, ⟨_, rfl, .nils⟩, ⟨_, rfl, .int _ _⟩, trivial⟩, 0, 0, [], rfl, Nat.zero_le _, rfl, rfl, rfl⟩ ?_
  rintro mu s ⟨i, n, A, rfl, hi, hn, hA, rfl⟩
  refine .seq ?_
  refine .seq ?_
  refine gw 88 [(2, hLen 1 (encS encObj q) (ls q).length), (3, hBin 1 (iN i) (iN ((ls q).length)) (.bool (decide (i < (ls q).length))))] [(0, encS encObj q), (3, slV n 0 4), (4, iN i), (14, .bool (decide (i < (ls q).length)))] [blkV n (encL encSym (sK 1 A)) 31] ⟨good_len T22.hu, good_bin (cmpLss rfl), trivial⟩ (by kernel_rfl) ?_
  by_cases hlt : i < (ls q).length
  · skip
    refine .condT hlt rfl ?_
    obtain ⟨x, hx⟩ : ∃ x, (ls q)[i]? = some x := ⟨_, List.getElem?_eq_getElem hlt⟩
    have hxl : ObjLim x := hol x (List.mem_of_getElem? hx)
    have hxv : (ls x.vars).length ≤ Lim := hxl.1
    refine .skip ?_
    refine .seq ?_
    refine .blk ?_
    refine .seq ?_
    refine gw 88 [] [(0, encS encObj q), (3, slV n 0 4), (4, iN i), (5, iN 0)] [blkV n (encL encSym (sK 1 A)) 31] trivial (by kernel_rfl) ?_
    refine .blk ?_
    refine .loopG (fun mu s => ∃ k n A, mu = (ls x.vars).length - k ∧ (k ≤ (ls x.vars).length) ∧ (n = A.length) ∧ (A = pV ((ls q).take i) ++ ((ls x.vars).take k).map fun v => (x.mod, v.name)) ∧ s = ⟨sp 88 [(0, encS encObj q), (3, slV n 0 4), (4, iN i), (5, iN k)], [blkV n (encL encSym (sK 1 A)) 31], 0⟩) ((ls x.vars).length) ⟨⟨sp 88 [(0, encS encObj q), (3, slV n 0 4), (4, iN i), (5, iN 0)], [blkV n (encL encSym (sK 1 A)) 31], 0⟩, Pln.ofT [0] (by decide) rfl ⟨.inl ⟨_, rfl, blkV_frz (kSym.cls _)⟩, trivial⟩ ⟨⟨_, rfl, kObj.clS _ _ _ _⟩, ⟨_, rfl, slV_frz (i := 0) (j := 0) rfl⟩, ⟨_, rfl, .int _ _⟩, ⟨_, rfl, .int _ _⟩, trivial⟩, 0, n, A, rfl, Nat.zero_le _, hn, by rw [hA]; simp, rfl⟩ ?_
    rintro mu s ⟨k, n, A, rfl, hk, hn, hA, rfl⟩
    have hAl : n ≤ 1048576 := by have := fl_le pVo hx (k := k); rw [← hLim]; rw [hn, hA]; simp only [pVo] at this ⊢; rw [← List.map_take] at this; exact Nat.le_trans this hV
    refine .seq ?_
    refine .seq ?_
    refine gw 88 [(3, hIdxE 1 encObj q (i) x), (6, hLen 1 (encS encVar x.vars) (ls x.vars).length), (7, hBin 1 (iN k) (iN ((ls x.vars).length)) (.bool (decide (k < (ls x.vars).length))))] [(0, encS encObj q), (3, slV n 0 4), (4, iN i), (5, iN k), (24, .bool (decide (k < (ls x.vars).length)))] [blkV n (encL encSym (sK 1 A)) 31] ⟨good_idxE T22.hu T22.hs kObj hx, good_len T34.hu, good_bin (cmpLss rfl), trivial⟩ (by kernel_rfl) ?_
    by_cases hlt1 : k < (ls x.vars).length
    · skip
      refine .condT hlt1 rfl ?_
      obtain ⟨v, hv⟩ : ∃ v, (ls x.vars)[k]? = some v := ⟨_, List.getElem?_eq_getElem hlt1⟩
      refine .skip ?_
      refine .seq ?_
      refine .blk ?_
      refine gw 88 [(3, hIdxE 1 encObj q (i) x), (8, hIdxE 1 encObj q (i) x), (12, hIdxE 1 encVar x.vars (k) v), (16, hLenV 1 n 0 4), (19, hAppW 2 n 0 4 (encL encSym (sK 1 A)) 31 (.sl 1 0 1 1 true 4) ([.str x.mod, .str v.name, iN 1, iN n]) [1] [(1, .cells [.str x.mod, .str v.name, iN 1, iN n] 31)])] [(0, encS encObj q), (3, .sl 2 0 (n + 1) (n + 1) false 4), (4, iN i), (5, iN k)] [.dead, .cells [.str x.mod, .str v.name, iN 1, iN n] 31, .cells ((encL encSym (sK 1 A)) ++ [.str x.mod, .str v.name, iN 1, iN n]) 31] ⟨good_idxE T22.hu T22.hs kObj hx, good_idxE T22.hu T22.hs kObj hx, good_idxE T34.hu T34.hs kVar hv, good_lenV T27.hu, good_appW T27 rfl rfl rfl rfl rfl (fun h hh => srcA_sl (hh _ List.mem_cons_self) rfl) (by rw [kSym.length, sK_len, hn]) rfl (by omega), trivial⟩ (by cases n <;> kernel_rfl) ?_
      refine gw 88 [(1, hBin 3 (iN k) (iN 1) (iN (k + 1)))] [(0, encS encObj q), (3, .sl 2 0 (n + 1) (n + 1) false 4), (4, iN i), (5, iN (k + 1))] [.dead, .cells [.str x.mod, .str v.name, iN 1, iN n] 31, .cells ((encL encSym (sK 1 A)) ++ [.str x.mod, .str v.name, iN 1, iN n]) 31] ⟨good_bin (addN (by omega)), trivial⟩ (by kernel_rfl) ?_
      exact ⟨⟨sp 88 [(0, encS encObj q), (3, slV (n + 1) 0 4), (4, iN i), (5, iN (k + 1))], [blkV (n + 1) (encL encSym (sK 1 (A ++ [(x.mod, v.name)]))) 31], 0⟩, Pln.ofT [2] (by decide) rfl ⟨.inl ⟨_, rfl, .all (by rw [sK_snoc, encL_append, hn]; exact ((kSym.cls _).append (.cons .str (.cons .str (.cons .int (.cons .int .nil))))).frzs)⟩, trivial⟩ ⟨⟨_, rfl, kObj.clS _ _ _ _⟩, ⟨_, rfl, slV_frz (n := n + 1) (i := 2) (j := 0) rfl⟩, ⟨_, rfl, .int _ _⟩, ⟨_, rfl, .int _ _⟩, trivial⟩, (ls x.vars).length - (k + 1), by omega, (k + 1), (n + 1), (A ++ [(x.mod, v.name)]), rfl, by omega, by rw [hn]; simp, by rw [hA, tk_succ hv]; simp, rfl⟩
    · skip
      refine .condF hlt1 rfl ?_
      obtain rfl : k = (ls x.vars).length := by omega
      refine .exit ⟨fun _ => ?_, fun h => absurd rfl h⟩
      refine gw 88 [(1, hBin 1 (iN i) (iN 1) (iN (i + 1)))] [(0, encS encObj q), (3, slV n 0 4), (4, iN (i + 1))] [blkV n (encL encSym (sK 1 A)) 31] ⟨good_bin (addN (by omega)), trivial⟩ (by kernel_rfl) ?_
      exact ⟨⟨sp 88 [(0, encS encObj q), (3, slV n 0 4), (4, iN (i + 1))], [blkV n (encL encSym (sK 1 A)) 31], 0⟩, Pln.ofT [0] (by decide) rfl ⟨.inl ⟨_, rfl, blkV_frz (kSym.cls _)⟩, trivial⟩ ⟨⟨_, rfl, kObj.clS _ _ _ _⟩, ⟨_, rfl, slV_frz (i := 0) (j := 0) rfl⟩, ⟨_, rfl, .int _ _⟩, trivial⟩, (ls q).length - (i + 1), by omega, (i + 1), n, A, rfl, by omega, hn, by rw [hA, pV, pV, fl_succ pVo hx, List.take_length]; rfl, rfl⟩
  · skip
    refine .condF hlt rfl ?_
    obtain rfl : i = (ls q).length := by omega
    rw [List.take_length] at hA
    have hnl : n ≤ Lim := by rw [hn, hA]; exact hV
    refine .exit ⟨fun _ => ?_, fun h => absurd rfl h⟩
    refine .seq ?_
    refine gw 88 [(1, hLenV 1 n 0 4)] [(0, encS encObj q), (3, slV n 0 4), (6, iN n)] [blkV n (encL encSym (sK 1 A)) 31] ⟨good_lenV T27.hu, trivial⟩ (by kernel_rfl) ?_
    refine .seq ?_
    refine .seq ?_
    refine gw 88 [] [(0, encS encObj q), (3, slV n 0 4), (6, iN n), (7, iN 0)] [blkV n (encL encSym (sK 1 A)) 31] trivial (by kernel_rfl) ?_
    refine .blk ?_
    refine .loopG (fun mu s => ∃ i m F, mu = (ls q).length - i ∧ (i ≤ (ls q).length) ∧ (m = n + F.length) ∧ (F = pF ((ls q).take i)) ∧ s = ⟨sp 88 [(0, encS encObj q), (3, slV m 0 4), (6, iN n), (7, iN i)], [blkV m (encL encSym (sK 1 A ++ sK 2 F)) 31], 0⟩) ((ls q).length) ⟨⟨sp 88 [(0, encS encObj q), (3, slV n 0 4), (6, iN n), (7, iN 0)], [blkV n (encL encSym (sK 1 A ++ sK 2 [])) 31], 0⟩, Pln.ofT [0] (by decide) rfl ⟨.inl ⟨_, rfl, by rw [show sK 1 A ++ sK 2 [] = sK 1 A from List.append_nil _]; exact blkV_frz (kSym.cls _)⟩, trivial⟩ ⟨⟨_, rfl, kObj.clS _ _ _ _⟩, ⟨_, rfl, slV_frz (i := 0) (j := 0) rfl⟩, ⟨_, rfl, .int _ _⟩, ⟨_, rfl, .int _ _⟩, trivial⟩, 0, n, [], rfl, Nat.zero_le _, rfl, rfl, rfl⟩ ?_
    rintro mu s ⟨i, m, F, rfl, hi, hm, hF0, rfl⟩
    refine .seq ?_
    refine .seq ?_
    refine gw 88 [(2, hLen 1 (encS encObj q) (ls q).length), (3, hBin 1 (iN i) (iN ((ls q).length)) (.bool (decide (i < (ls q).length))))] [(0, encS encObj q), (3, slV m 0 4), (6, iN n), (7, iN i), (52, .bool (decide (i < (ls q).length)))] [blkV m (encL encSym (sK 1 A ++ sK 2 F)) 31] ⟨good_len T22.hu, good_bin (cmpLss rfl), trivial⟩ (by kernel_rfl) ?_
    by_cases hlt2 : i < (ls q).length
    · skip
      refine .condT hlt2 rfl ?_
      obtain ⟨x, hx⟩ : ∃ x, (ls q)[i]? = some x := ⟨_, List.getElem?_eq_getElem hlt2⟩
      have hxl : ObjLim x := hol x (List.mem_of_getElem? hx)
      have hxf : (ls x.fns).length ≤ Lim := hxl.2.1
      refine .skip ?_
      refine .seq ?_
      refine .blk ?_
      refine .seq ?_
      refine gw 88 [] [(0, encS encObj q), (3, slV m 0 4), (6, iN n), (7, iN i), (8, iN 0)] [blkV m (encL encSym (sK 1 A ++ sK 2 F)) 31] trivial (by kernel_rfl) ?_
      refine .blk ?_
      refine .loopG (fun mu s => ∃ k m F, mu = (ls x.fns).length - k ∧ (k ≤ (ls x.fns).length) ∧ (m = n + F.length) ∧ (F = pF ((ls q).take i) ++ ((ls x.fns).take k).map fun f => (x.mod, f.name)) ∧ s = ⟨sp 88 [(0, encS encObj q), (3, slV m 0 4), (6, iN n), (7, iN i), (8, iN k)], [blkV m (encL encSym (sK 1 A ++ sK 2 F)) 31], 0⟩) ((ls x.fns).length) ⟨⟨sp 88 [(0, encS encObj q), (3, slV m 0 4), (6, iN n), (7, iN i), (8, iN 0)], [blkV m (encL encSym (sK 1 A ++ sK 2 F)) 31], 0⟩, Pln.ofT [0] (by decide) rfl ⟨.inl ⟨_, rfl, blkV_frz (kSym.cls _)⟩, trivial⟩ ⟨⟨_, rfl, kObj.clS _ _ _ _⟩, ⟨_, rfl, slV_frz (i := 0) (j := 0) rfl⟩, ⟨_, rfl, .int _ _⟩, ⟨_, rfl, .int _ _⟩, ⟨_, rfl, .int _ _⟩, trivial⟩, 0, m, F, rfl, Nat.zero_le _, hm, by rw [hF0]; simp, rfl⟩ ?_
      rintro mu s ⟨k, m, F, rfl, hk, hm, hF0, rfl⟩
      have hFl : F.length ≤ 1048576 := by have := fl_le pFo hx (k := k); rw [← hLim]; rw [hF0]; simp only [pFo] at this ⊢; rw [← List.map_take] at this; exact Nat.le_trans this hF
      refine .seq ?_
      refine .seq ?_
      refine gw 88 [(3, hIdxE 1 encObj q (i) x), (6, hLen 1 (encS encFnN x.fns) (ls x.fns).length), (7, hBin 1 (iN k) (iN ((ls x.fns).length)) (.bool (decide (k < (ls x.fns).length))))] [(0, encS encObj q), (3, slV m 0 4), (6, iN n), (7, iN i), (8, iN k), (62, .bool (decide (k < (ls x.fns).length)))] [blkV m (encL encSym (sK 1 A ++ sK 2 F)) 31] ⟨good_idxE T22.hu T22.hs kObj hx, good_len T35.hu, good_bin (cmpLss rfl), trivial⟩ (by kernel_rfl) ?_
      by_cases hlt3 : k < (ls x.fns).length
      · skip
        refine .condT hlt3 rfl ?_
        obtain ⟨v, hv⟩ : ∃ v, (ls x.fns)[k]? = some v := ⟨_, List.getElem?_eq_getElem hlt3⟩
        refine .skip ?_
        refine .seq ?_
        refine .blk ?_
        refine gw 88 [(3, hIdxE 1 encObj q (i) x), (8, hIdxE 1 encObj q (i) x), (12, hIdxE 1 encFnN x.fns (k) v), (16, hLenV 1 m 0 4), (18, hBin 1 (iN m) (iN n) (iN (m - n))), (21, hAppW 2 m 0 4 (encL encSym (sK 1 A ++ sK 2 F)) 31 (.sl 1 0 1 1 true 4) ([.str x.mod, .str v.name, iN 2, iN (m - n)]) [1] [(1, .cells [.str x.mod, .str v.name, iN 2, iN (m - n)] 31)])] [(0, encS encObj q), (3, .sl 2 0 (m + 1) (m + 1) false 4), (6, iN n), (7, iN i), (8, iN k)] [.dead, .cells [.str x.mod, .str v.name, iN 2, iN (m - n)] 31, .cells ((encL encSym (sK 1 A ++ sK 2 F)) ++ [.str x.mod, .str v.name, iN 2, iN (m - n)]) 31] ⟨good_idxE T22.hu T22.hs kObj hx, good_idxE T22.hu T22.hs kObj hx, good_idxE T35.hu T35.hs kFnN hv, good_lenV T27.hu, good_bin (subN (by omega) (by omega)), good_appW T27 rfl rfl rfl rfl rfl (fun h hh => srcA_sl (hh _ List.mem_cons_self) rfl) (by rw [kSym.length, List.length_append, sK_len, sK_len, hm, hn]) rfl (by omega), trivial⟩ (by cases m <;> kernel_rfl) ?_
        refine gw 88 [(1, hBin 3 (iN k) (iN 1) (iN (k + 1)))] [(0, encS encObj q), (3, .sl 2 0 (m + 1) (m + 1) false 4), (6, iN n), (7, iN i), (8, iN (k + 1))] [.dead, .cells [.str x.mod, .str v.name, iN 2, iN (m - n)] 31, .cells ((encL encSym (sK 1 A ++ sK 2 F)) ++ [.str x.mod, .str v.name, iN 2, iN (m - n)]) 31] ⟨good_bin (addN (by omega)), trivial⟩ (by kernel_rfl) ?_
        exact ⟨⟨sp 88 [(0, encS encObj q), (3, slV (m + 1) 0 4), (6, iN n), (7, iN i), (8, iN (k + 1))], [blkV (m + 1) (encL encSym (sK 1 A ++ sK 2 (F ++ [(x.mod, v.name)]))) 31], 0⟩, Pln.ofT [2] (by decide) rfl ⟨.inl ⟨_, rfl, .all (by rw [sK_snoc, ← List.append_assoc, encL_append _ [_], show m - n = F.length by omega]; exact ((kSym.cls _).append (.cons .str (.cons .str (.cons .int (.cons .int .nil))))).frzs)⟩, trivial⟩ ⟨⟨_, rfl, kObj.clS _ _ _ _⟩, ⟨_, rfl, slV_frz (n := m + 1) (i := 2) (j := 0) rfl⟩, ⟨_, rfl, .int _ _⟩, ⟨_, rfl, .int _ _⟩, ⟨_, rfl, .int _ _⟩, trivial⟩, (ls x.fns).length - (k + 1), by omega, (k + 1), (m + 1), (F ++ [(x.mod, v.name)]), rfl, by omega, by rw [hm, List.length_append]; rfl, by rw [hF0, tk_succ hv]; simp, rfl⟩
      · skip
        refine .condF hlt3 rfl ?_
        obtain rfl : k = (ls x.fns).length := by omega
        refine .exit ⟨fun _ => ?_, fun h => absurd rfl h⟩
        refine gw 88 [(1, hBin 1 (iN i) (iN 1) (iN (i + 1)))] [(0, encS encObj q), (3, slV m 0 4), (6, iN n), (7, iN (i + 1))] [blkV m (encL encSym (sK 1 A ++ sK 2 F)) 31] ⟨good_bin (addN (by omega)), trivial⟩ (by kernel_rfl) ?_
        exact ⟨⟨sp 88 [(0, encS encObj q), (3, slV m 0 4), (6, iN n), (7, iN (i + 1))], [blkV m (encL encSym (sK 1 A ++ sK 2 F)) 31], 0⟩, Pln.ofT [0] (by decide) rfl ⟨.inl ⟨_, rfl, blkV_frz (kSym.cls _)⟩, trivial⟩ ⟨⟨_, rfl, kObj.clS _ _ _ _⟩, ⟨_, rfl, slV_frz (i := 0) (j := 0) rfl⟩, ⟨_, rfl, .int _ _⟩, ⟨_, rfl, .int _ _⟩, trivial⟩, (ls q).length - (i + 1), by omega, (i + 1), m, F, rfl, by omega, hm, by rw [hF0, pF, pF, fl_succ pFo hx, List.take_length]; rfl, rfl⟩
    · skip
      refine .condF hlt2 rfl ?_
      obtain rfl : i = (ls q).length := by omega
      rw [List.take_length] at hF0
      have hmm : m = (sK 1 A ++ sK 2 F).length := by rw [List.length_append, sK_len, sK_len, hm, hn]
      refine .exit ⟨fun _ => ?_, fun h => absurd rfl h⟩
      refine .seq ?_
      refine gw 88 [] [(2, slV m 0 4)] [blkV m (encL encSym (sK 1 A ++ sK 2 F)) 31] trivial (by kernel_rfl) ?_
      refine .ret ?_
      rw [symL, ← hA, ← hF0]
      exact ⟨.inr rfl, [slV m 0 4], by kernel_rfl, by rw [hmm]; exact slV_done kSym (e := 31) (by decide) rfl⟩
end Go.Proofs.Ytfihpghhngfelaa.Lk

