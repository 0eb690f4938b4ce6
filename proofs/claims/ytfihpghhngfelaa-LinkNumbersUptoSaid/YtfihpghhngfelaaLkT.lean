/- link.Symbols. Conditions: none (definitions and lemmas). -/
import Derived.Test.YtfihpghhngfelaaLkS
namespace Go.Proofs.Ytfihpghhngfelaa.Lk
open Go Go.Proofs Go.Proofs.Ytfihpghhngfelaa.Ev
set_option maxRecDepth 100000
set_option linter.unusedVariables false
set_option linter.unusedSimpArgs false

theorem Symbols_ok (o q : Option (List DObj)) (hord : OrcAt Try.prog 18 [encS encObj o] [] (encS encObj q) [] 0) (hl : (ls q).length ≤ Lim) (hV : (pV (ls q)).length ≤ Lim) (hF : (pF (ls q)).length ≤ Lim) (hol : ∀ x ∈ ls q, ObjLim x) :
    OrcAt Try.prog 8 [encS encObj o] [] (encS encSym (nz (symL (ls q)))) [] 0 := by
  have hLim : Lim = 1048576 := rfl
  refine OrcAt.of_body0 Try.func8 rfl rfl ?_
  refine .seq ?_
  refine gw 58 [] [(0, encS encObj o)] [] trivial (by kernel_rfl) ?_
  refine .seq ?_
  refine gw 58 [] [(0, encS encObj o), (3, .nils), (4, .nils)] [] trivial (by kernel_rfl) ?_
  refine .seq ?_
  refine .seq ?_
  refine .go E0_ok (pureOrc_ok (hord) (.cons (.encS imObj _) (.nil)) (.encS imObj _)) mix0 58 [(1, hCall 0 18 [encS encObj o] (encS encObj q)), (2, hLen 0 (encS encObj q) (ls q).length)] [(3, .nils), (4, .nils), (12, encS encObj q), (13, iN ((ls q).length)), (14, iN 0)] [] 0 ⟨good_call rfl rfl, good_len T25.hu, trivial⟩ (by kernel_rfl) ?_
  refine .blk ?_
  refine .loopG (fun mu s => ∃ i n A m F, mu = (ls q).length - i ∧ (i ≤ (ls q).length) ∧ (n = A.length) ∧ (A = pV ((ls q).take i)) ∧ (m = F.length) ∧ (F = pF ((ls q).take i)) ∧ s = ⟨sp 58 [(3, slV n 0 4), (4, slV m 1 4), (12, encS encObj q), (13, iN ((ls q).length)), (14, iN i)], [blkV n (encL encSym (sK 1 A)) 30, blkV m (encL encSym (sK 2 F)) 30], 0⟩) ((ls q).length) ⟨⟨sp 58 [(3, slV 0 0 4), (4, slV 0 1 4), (12, encS encObj q), (13, iN ((ls q).length)), (14, iN 0)], [blkV 0 (encL encSym (sK 1 [])) 30, blkV 0 (encL encSym (sK 2 [])) 30], 0⟩, Pln.ofT [7, 8] (by decide) rfl ⟨.inr ⟨by decide, rfl⟩, .inr ⟨by decide, rfl⟩, trivial⟩ ⟨⟨_, rfl, .nils⟩, ⟨_, rfl, .nils⟩, ⟨_, rfl, kObj.clS _ _ _ _⟩, ⟨_, rfl, .int _ _⟩, ⟨_, rfl, .int _ _⟩, trivial⟩, 0, 0, [], 0, [], rfl, Nat.zero_le _, rfl, rfl, rfl, rfl, rfl⟩ ?_
  rintro mu s ⟨i, n, A, m, F, rfl, hi, hn, hA, hm, hF0, rfl⟩
  refine .seq ?_
  refine gw 58 [(0, hBin 2 (iN i) (iN ((ls q).length)) (.bool (decide (i < (ls q).length))))] [(3, slV n 0 4), (4, slV m 1 4), (12, encS encObj q), (13, iN ((ls q).length)), (14, iN i), (15, .bool (decide (i < (ls q).length)))] [blkV n (encL encSym (sK 1 A)) 30, blkV m (encL encSym (sK 2 F)) 30] ⟨good_bin (cmpLss rfl), trivial⟩ (by kernel_rfl) ?_
  refine .seq ?_
  by_cases hlt : i < (ls q).length
  · skip
    refine .condT hlt rfl ?_
    obtain ⟨x, hx⟩ : ∃ x, (ls q)[i]? = some x := ⟨_, List.getElem?_eq_getElem hlt⟩
    have hxl : ObjLim x := hol x (List.mem_of_getElem? hx)
    have hxv : (ls x.vars).length ≤ Lim := hxl.1
    have hxf : (ls x.fns).length ≤ Lim := hxl.2.1
    refine .skip ?_
    refine .seq ?_
    refine .blk ?_
    refine .seq ?_
    refine gw 58 [(0, hIdxE 2 encObj q (i) x), (3, hSt 3 2 [.str .empty, .nils, .nils, .nils] 43 0 (encObj x) [.str x.mod, encS encVar x.vars, encS encFnN x.fns, encS encRel x.rels])] [(3, slV n 0 4), (4, slV m 1 4), (6, .ptr 2 0), (12, encS encObj q), (13, iN ((ls q).length)), (14, iN i)] [blkV n (encL encSym (sK 1 A)) 30, blkV m (encL encSym (sK 2 F)) 30, .cells (encObj x) 43] ⟨good_idxE T25.hu T25.hs kObj hx, good_st (size := 4) (by kernel_rfl) rfl (Nat.le_of_ble_eq_true rfl) (kObj.leaf _) rfl, trivial⟩ (by kernel_rfl) ?_
    refine .seq ?_
    refine .seq ?_
    refine gw 58 [(2, hLen 3 (encS encVar x.vars) (ls x.vars).length)] [(3, slV n 0 4), (4, slV m 1 4), (6, .ptr 2 0), (12, encS encObj q), (13, iN ((ls q).length)), (14, iN i), (19, encS encVar x.vars), (20, iN ((ls x.vars).length)), (21, iN 0)] [blkV n (encL encSym (sK 1 A)) 30, blkV m (encL encSym (sK 2 F)) 30, .cells (encObj x) 43] ⟨good_len T39.hu, trivial⟩ (by kernel_rfl) ?_
    refine .blk ?_
    refine .loopG (fun mu s => ∃ k n A, mu = (ls x.vars).length - k ∧ (k ≤ (ls x.vars).length) ∧ (n = A.length) ∧ (A = pV ((ls q).take i) ++ ((ls x.vars).take k).map fun v => (x.mod, v.name)) ∧ s = ⟨sp 58 [(3, slV n 0 4), (4, slV m 1 4), (6, .vp (encObj x)), (12, encS encObj q), (13, iN ((ls q).length)), (14, iN i), (19, encS encVar x.vars), (20, iN ((ls x.vars).length)), (21, iN k)], [blkV n (encL encSym (sK 1 A)) 30, blkV m (encL encSym (sK 2 F)) 30], 0⟩) ((ls x.vars).length) ⟨⟨sp 58 [(3, slV n 0 4), (4, slV m 1 4), (6, .vp (encObj x)), (12, encS encObj q), (13, iN ((ls q).length)), (14, iN i), (19, encS encVar x.vars), (20, iN ((ls x.vars).length)), (21, iN 0)], [blkV n (encL encSym (sK 1 A)) 30, blkV m (encL encSym (sK 2 F)) 30], 0⟩, Pln.ofT [0, 1] (by decide) rfl ⟨.inl ⟨_, rfl, blkV_frz (kSym.cls _)⟩, .inl ⟨_, rfl, blkV_frz (kSym.cls _)⟩, trivial⟩ ⟨⟨_, rfl, slV_frz (i := 0) (j := 0) rfl⟩, ⟨_, rfl, slV_frz (i := 1) (j := 1) rfl⟩, ⟨_, rfl, .ptrFrz (k := 4) (Nat.zero_le _) (by decide) rfl (.cons (.str _) (.cons (kVar.clS _ _ _ _) (.cons (kFnN.clS _ _ _ _) (.cons (kRel.clS _ _ _ _) (.nil)))))⟩, ⟨_, rfl, kObj.clS _ _ _ _⟩, ⟨_, rfl, .int _ _⟩, ⟨_, rfl, .int _ _⟩, ⟨_, rfl, kVar.clS _ _ _ _⟩, ⟨_, rfl, .int _ _⟩, ⟨_, rfl, .int _ _⟩, trivial⟩, 0, n, A, rfl, Nat.zero_le _, hn, by rw [hA]; simp, rfl⟩ ?_
    rintro mu s ⟨k, n, A, rfl, hk, hn, hA, rfl⟩
    have hAl : n ≤ 1048576 := by have := fl_le pVo hx (k := k); rw [← hLim]; rw [hn, hA]; simp only [pVo] at this ⊢; rw [← List.map_take] at this; exact Nat.le_trans this hV
    refine .seq ?_
    refine gw 58 [(0, hBin 2 (iN k) (iN ((ls x.vars).length)) (.bool (decide (k < (ls x.vars).length))))] [(3, slV n 0 4), (4, slV m 1 4), (6, .vp (encObj x)), (12, encS encObj q), (13, iN ((ls q).length)), (14, iN i), (19, encS encVar x.vars), (20, iN ((ls x.vars).length)), (21, iN k), (22, .bool (decide (k < (ls x.vars).length)))] [blkV n (encL encSym (sK 1 A)) 30, blkV m (encL encSym (sK 2 F)) 30] ⟨good_bin (cmpLss rfl), trivial⟩ (by kernel_rfl) ?_
    refine .seq ?_
    by_cases hlt1 : k < (ls x.vars).length
    · skip
      refine .condT hlt1 rfl ?_
      obtain ⟨v, hv⟩ : ∃ v, (ls x.vars)[k]? = some v := ⟨_, List.getElem?_eq_getElem hlt1⟩
      refine .skip ?_
      refine .seq ?_
      refine .blk ?_
      refine .seq ?_
      refine gw 58 [(0, hIdxE 2 encVar x.vars (k) v)] [(3, slV n 0 4), (4, slV m 1 4), (6, .vp (encObj x)), (8, .ptr 2 0), (12, encS encObj q), (13, iN ((ls q).length)), (14, iN i), (19, encS encVar x.vars), (20, iN ((ls x.vars).length)), (21, iN k)] [blkV n (encL encSym (sK 1 A)) 30, blkV m (encL encSym (sK 2 F)) 30, .cells (encVar v) 63] ⟨good_idxE T39.hu T39.hs kVar hv, trivial⟩ (by kernel_rfl) ?_
      refine gw 58 [(6, hLenV 3 n 0 4), (9, hAppW 4 n 0 4 (encL encSym (sK 1 A)) 30 (.sl 3 0 1 1 true 4) ([.str x.mod, .str v.name, iN 1, iN n]) [3] [(3, .cells [.str x.mod, .str v.name, iN 1, iN n] 30)])] [(3, .sl 4 0 (n + 1) (n + 1) false 4), (4, slV m 1 4), (6, .vp (encObj x)), (12, encS encObj q), (13, iN ((ls q).length)), (14, iN i), (19, encS encVar x.vars), (20, iN ((ls x.vars).length)), (21, iN k)] [.dead, blkV m (encL encSym (sK 2 F)) 30, .cells (encVar v) 63, .cells [.str x.mod, .str v.name, iN 1, iN n] 30, .cells ((encL encSym (sK 1 A)) ++ [.str x.mod, .str v.name, iN 1, iN n]) 30] ⟨good_lenV T23.hu, good_appW T23 rfl rfl rfl rfl rfl (fun h hh => srcA_sl (hh _ List.mem_cons_self) rfl) (by rw [kSym.length, sK_len, hn]) rfl (by omega), trivial⟩ (by cases n <;> kernel_rfl) ?_
      refine gw 58 [(0, hBin 5 (iN k) (iN 1) (iN (k + 1)))] [(3, .sl 4 0 (n + 1) (n + 1) false 4), (4, slV m 1 4), (6, .vp (encObj x)), (12, encS encObj q), (13, iN ((ls q).length)), (14, iN i), (19, encS encVar x.vars), (20, iN ((ls x.vars).length)), (21, iN (k + 1))] [.dead, blkV m (encL encSym (sK 2 F)) 30, .cells (encVar v) 63, .cells [.str x.mod, .str v.name, iN 1, iN n] 30, .cells ((encL encSym (sK 1 A)) ++ [.str x.mod, .str v.name, iN 1, iN n]) 30] ⟨good_bin (addN (by omega)), trivial⟩ (by kernel_rfl) ?_
      exact ⟨⟨sp 58 [(3, slV (n + 1) 0 4), (4, slV m 1 4), (6, .vp (encObj x)), (12, encS encObj q), (13, iN ((ls q).length)), (14, iN i), (19, encS encVar x.vars), (20, iN ((ls x.vars).length)), (21, iN (k + 1))], [blkV (n + 1) (encL encSym (sK 1 (A ++ [(x.mod, v.name)]))) 30, blkV m (encL encSym (sK 2 F)) 30], 0⟩, Pln.ofT [4, 1] (by decide) rfl ⟨.inl ⟨_, rfl, .all (by rw [sK_snoc, encL_append, hn]; exact ((kSym.cls _).append (.cons .str (.cons .str (.cons .int (.cons .int .nil))))).frzs)⟩, .inl ⟨_, rfl, blkV_frz (kSym.cls _)⟩, trivial⟩ ⟨⟨_, rfl, slV_frz (n := n + 1) (i := 4) (j := 0) rfl⟩, ⟨_, rfl, slV_frz (i := 1) (j := 1) rfl⟩, ⟨_, rfl, Cl.vp (.cons .str (.cons (kVar.clS _) (.cons (kFnN.clS _) (.cons (kRel.clS _) (.nil))))) _ _ _⟩, ⟨_, rfl, kObj.clS _ _ _ _⟩, ⟨_, rfl, .int _ _⟩, ⟨_, rfl, .int _ _⟩, ⟨_, rfl, kVar.clS _ _ _ _⟩, ⟨_, rfl, .int _ _⟩, ⟨_, rfl, .int _ _⟩, trivial⟩, (ls x.vars).length - (k + 1), by omega, (k + 1), (n + 1), (A ++ [(x.mod, v.name)]), rfl, by omega, by rw [hn]; simp, by rw [hA, tk_succ hv]; simp, rfl⟩
    · skip
      refine .condF hlt1 rfl ?_
      obtain rfl : k = (ls x.vars).length := by omega
      refine .exit ⟨fun _ => ?_, fun h => absurd rfl h⟩
      refine .seq ?_
      refine gw 58 [(2, hLen 2 (encS encFnN x.fns) (ls x.fns).length)] [(3, slV n 0 4), (4, slV m 1 4), (6, .vp (encObj x)), (12, encS encObj q), (13, iN ((ls q).length)), (14, iN i), (37, encS encFnN x.fns), (38, iN ((ls x.fns).length)), (39, iN 0)] [blkV n (encL encSym (sK 1 A)) 30, blkV m (encL encSym (sK 2 F)) 30] ⟨good_len T40.hu, trivial⟩ (by kernel_rfl) ?_
      refine .blk ?_
      have hFs := hF0
      refine .loopG (fun mu s => ∃ k m F, mu = (ls x.fns).length - k ∧ (k ≤ (ls x.fns).length) ∧ (m = F.length) ∧ (F = pF ((ls q).take i) ++ ((ls x.fns).take k).map fun f => (x.mod, f.name)) ∧ s = ⟨sp 58 [(3, slV n 0 4), (4, slV m 1 4), (6, .vp (encObj x)), (12, encS encObj q), (13, iN ((ls q).length)), (14, iN i), (37, encS encFnN x.fns), (38, iN ((ls x.fns).length)), (39, iN k)], [blkV n (encL encSym (sK 1 A)) 30, blkV m (encL encSym (sK 2 F)) 30], 0⟩) ((ls x.fns).length) ⟨⟨sp 58 [(3, slV n 0 4), (4, slV m 1 4), (6, .vp (encObj x)), (12, encS encObj q), (13, iN ((ls q).length)), (14, iN i), (37, encS encFnN x.fns), (38, iN ((ls x.fns).length)), (39, iN 0)], [blkV n (encL encSym (sK 1 A)) 30, blkV m (encL encSym (sK 2 F)) 30], 0⟩, Pln.ofT [0, 1] (by decide) rfl ⟨.inl ⟨_, rfl, blkV_frz (kSym.cls _)⟩, .inl ⟨_, rfl, blkV_frz (kSym.cls _)⟩, trivial⟩ ⟨⟨_, rfl, slV_frz (i := 0) (j := 0) rfl⟩, ⟨_, rfl, slV_frz (i := 1) (j := 1) rfl⟩, ⟨_, rfl, Cl.vp (.cons .str (.cons (kVar.clS _) (.cons (kFnN.clS _) (.cons (kRel.clS _) (.nil))))) _ _ _⟩, ⟨_, rfl, kObj.clS _ _ _ _⟩, ⟨_, rfl, .int _ _⟩, ⟨_, rfl, .int _ _⟩, ⟨_, rfl, kFnN.clS _ _ _ _⟩, ⟨_, rfl, .int _ _⟩, ⟨_, rfl, .int _ _⟩, trivial⟩, 0, m, F, rfl, Nat.zero_le _, hm, by rw [hF0]; simp, rfl⟩ ?_
      rintro mu s ⟨k, m, F, rfl, hk, hm, hF0, rfl⟩
      have hFl : m ≤ 1048576 := by have := fl_le pFo hx (k := k); rw [← hLim]; rw [hm, hF0]; simp only [pFo] at this ⊢; rw [← List.map_take] at this; exact Nat.le_trans this hF
      refine .seq ?_
      refine gw 58 [(0, hBin 2 (iN k) (iN ((ls x.fns).length)) (.bool (decide (k < (ls x.fns).length))))] [(3, slV n 0 4), (4, slV m 1 4), (6, .vp (encObj x)), (12, encS encObj q), (13, iN ((ls q).length)), (14, iN i), (37, encS encFnN x.fns), (38, iN ((ls x.fns).length)), (39, iN k), (40, .bool (decide (k < (ls x.fns).length)))] [blkV n (encL encSym (sK 1 A)) 30, blkV m (encL encSym (sK 2 F)) 30] ⟨good_bin (cmpLss rfl), trivial⟩ (by kernel_rfl) ?_
      refine .seq ?_
      by_cases hlt2 : k < (ls x.fns).length
      · skip
        refine .condT hlt2 rfl ?_
        obtain ⟨v, hv⟩ : ∃ v, (ls x.fns)[k]? = some v := ⟨_, List.getElem?_eq_getElem hlt2⟩
        refine .skip ?_
        refine .seq ?_
        refine .blk ?_
        refine .seq ?_
        refine gw 58 [(0, hIdxE 2 encFnN x.fns (k) v), (3, hSt 3 2 [.str .empty, .nils, iN 0, .nils, .nils] 72 0 (encFnN v) [.str v.name, encS encInt v.fn.params, .int .i64 v.fn.result, encS encInt v.fn.locals, encS encIns v.fn.code])] [(3, slV n 0 4), (4, slV m 1 4), (6, .vp (encObj x)), (10, .ptr 2 0), (12, encS encObj q), (13, iN ((ls q).length)), (14, iN i), (37, encS encFnN x.fns), (38, iN ((ls x.fns).length)), (39, iN k)] [blkV n (encL encSym (sK 1 A)) 30, blkV m (encL encSym (sK 2 F)) 30, .cells (encFnN v) 72] ⟨good_idxE T40.hu T40.hs kFnN hv, good_st (size := 5) (by kernel_rfl) rfl (Nat.le_of_ble_eq_true rfl) (kFnN.leaf _) rfl, trivial⟩ (by kernel_rfl) ?_
        refine gw 58 [(6, hLenV 3 m 1 4), (9, hAppW 4 m 1 4 (encL encSym (sK 2 F)) 30 (.sl 3 0 1 1 true 4) ([.str x.mod, .str v.name, iN 2, iN m]) [3] [(3, .cells [.str x.mod, .str v.name, iN 2, iN m] 30)])] [(3, slV n 0 4), (4, .sl 4 0 (m + 1) (m + 1) false 4), (6, .vp (encObj x)), (12, encS encObj q), (13, iN ((ls q).length)), (14, iN i), (37, encS encFnN x.fns), (38, iN ((ls x.fns).length)), (39, iN k)] [blkV n (encL encSym (sK 1 A)) 30, .dead, .cells (encFnN v) 72, .cells [.str x.mod, .str v.name, iN 2, iN m] 30, .cells ((encL encSym (sK 2 F)) ++ [.str x.mod, .str v.name, iN 2, iN m]) 30] ⟨good_lenV T23.hu, good_appW T23 rfl rfl rfl rfl rfl (fun h hh => srcA_sl (hh _ List.mem_cons_self) rfl) (by rw [kSym.length, sK_len, hm]) rfl (by omega), trivial⟩ (by cases m <;> kernel_rfl) ?_
        refine gw 58 [(0, hBin 5 (iN k) (iN 1) (iN (k + 1)))] [(3, slV n 0 4), (4, .sl 4 0 (m + 1) (m + 1) false 4), (6, .vp (encObj x)), (12, encS encObj q), (13, iN ((ls q).length)), (14, iN i), (37, encS encFnN x.fns), (38, iN ((ls x.fns).length)), (39, iN (k + 1))] [blkV n (encL encSym (sK 1 A)) 30, .dead, .cells (encFnN v) 72, .cells [.str x.mod, .str v.name, iN 2, iN m] 30, .cells ((encL encSym (sK 2 F)) ++ [.str x.mod, .str v.name, iN 2, iN m]) 30] ⟨good_bin (addN (by omega)), trivial⟩ (by kernel_rfl) ?_
        exact ⟨⟨sp 58 [(3, slV n 0 4), (4, slV (m + 1) 1 4), (6, .vp (encObj x)), (12, encS encObj q), (13, iN ((ls q).length)), (14, iN i), (37, encS encFnN x.fns), (38, iN ((ls x.fns).length)), (39, iN (k + 1))], [blkV n (encL encSym (sK 1 A)) 30, blkV (m + 1) (encL encSym (sK 2 (F ++ [(x.mod, v.name)]))) 30], 0⟩, Pln.ofT [0, 4] (by decide) rfl ⟨.inl ⟨_, rfl, blkV_frz (kSym.cls _)⟩, .inl ⟨_, rfl, .all (by rw [sK_snoc, encL_append, hm]; exact ((kSym.cls _).append (.cons .str (.cons .str (.cons .int (.cons .int .nil))))).frzs)⟩, trivial⟩ ⟨⟨_, rfl, slV_frz (i := 0) (j := 0) rfl⟩, ⟨_, rfl, slV_frz (n := m + 1) (i := 4) (j := 1) rfl⟩, ⟨_, rfl, Cl.vp (.cons .str (.cons (kVar.clS _) (.cons (kFnN.clS _) (.cons (kRel.clS _) (.nil))))) _ _ _⟩, ⟨_, rfl, kObj.clS _ _ _ _⟩, ⟨_, rfl, .int _ _⟩, ⟨_, rfl, .int _ _⟩, ⟨_, rfl, kFnN.clS _ _ _ _⟩, ⟨_, rfl, .int _ _⟩, ⟨_, rfl, .int _ _⟩, trivial⟩, (ls x.fns).length - (k + 1), by omega, (k + 1), (m + 1), (F ++ [(x.mod, v.name)]), rfl, by omega, by rw [hm]; simp, by rw [hF0, tk_succ hv]; simp, rfl⟩
      · skip
        refine .condF hlt2 rfl ?_
        obtain rfl : k = (ls x.fns).length := by omega
        refine .exit ⟨fun _ => ?_, fun h => absurd rfl h⟩
        refine gw 58 [(0, hBin 2 (iN i) (iN 1) (iN (i + 1)))] [(3, slV n 0 4), (4, slV m 1 4), (12, encS encObj q), (13, iN ((ls q).length)), (14, iN (i + 1))] [blkV n (encL encSym (sK 1 A)) 30, blkV m (encL encSym (sK 2 F)) 30] ⟨good_bin (addN (by omega)), trivial⟩ (by kernel_rfl) ?_
        exact ⟨⟨sp 58 [(3, slV n 0 4), (4, slV m 1 4), (12, encS encObj q), (13, iN ((ls q).length)), (14, iN (i + 1))], [blkV n (encL encSym (sK 1 A)) 30, blkV m (encL encSym (sK 2 F)) 30], 0⟩, Pln.ofT [0, 1] (by decide) rfl ⟨.inl ⟨_, rfl, blkV_frz (kSym.cls _)⟩, .inl ⟨_, rfl, blkV_frz (kSym.cls _)⟩, trivial⟩ ⟨⟨_, rfl, slV_frz (i := 0) (j := 0) rfl⟩, ⟨_, rfl, slV_frz (i := 1) (j := 1) rfl⟩, ⟨_, rfl, kObj.clS _ _ _ _⟩, ⟨_, rfl, .int _ _⟩, ⟨_, rfl, .int _ _⟩, trivial⟩, (ls q).length - (i + 1), by omega, (i + 1), n, A, m, F, rfl, by omega, hn, by rw [hA, pV, pV, fl_succ pVo hx, List.take_length]; rfl, hm, by rw [hF0, pF, pF, fl_succ pFo hx, List.take_length]; rfl, rfl⟩
  · skip
    refine .condF hlt rfl ?_
    refine .exit ⟨fun _ => ?_, fun h => absurd rfl h⟩
    obtain rfl : i = (ls q).length := by omega
    rw [List.take_length] at hA hF0
    subst hn
    subst hm
    refine .pln (Pln.ofT (k := 58) (lw := 0) (l := [(3, slV A.length 0 4), (4, encS encSym (nz (sK 2 F)))]) (K := [blkV A.length (encL encSym (sK 1 A)) 30]) [0] (by decide) rfl ⟨.inl ⟨_, rfl, blkV_frz (kSym.cls _)⟩, trivial⟩ ⟨⟨_, rfl, slV_frz (i := 0) (j := 0) rfl⟩, ⟨_, rfl, by have := slV_done kSym (h := [blkV A.length (encL encSym (sK 1 A)) 30, blkV F.length (encL encSym (sK 2 F)) 30]) (σ := [0]) (l := sK 2 F) (j := 1) (e := 30) (by decide) (by rw [sK_len]; rfl); rw [sK_len] at this; exact this⟩, trivial⟩) ?_
    have hsym : symL (ls q) = sK 1 A ++ sK 2 F := by rw [symL, ← hA, ← hF0]
    rw [hsym]
    have hFl : F.length ≤ Lim := by rw [hF0]; exact hF
    have hAl : A.length ≤ Lim := by rw [hA]; exact hV
    clear hA hF0
    rcases A with _ | ⟨a, A⟩
    · rcases F with _ | ⟨f, F⟩
      · refine .seq (gw 58 [] [(2, .nils)] [.dead] trivial (by kernel_rfl) ?_)
        exact .ret ⟨.inr rfl, [.nils], by kernel_rfl, .nils⟩
      · have hne : sK 2 (f :: F) ≠ [] := fun h => by have := sK_len 2 (f :: F); rw [h] at this; simp at this
        have e1 : sK 1 [] ++ sK 2 (f :: F) = sK 2 (f :: F) := rfl
        have hlen : (sK 2 (f :: F)).length ≤ Lim := by rw [sK_len]; exact hFl
        rw [e1, nz_ne hne]
        refine .seq (gw 58 [(2, hAppNil 1 4 30 (encS encSym (some (sK 2 (f :: F)))) (encL encSym (sK 2 (f :: F))) (sK 2 (f :: F)).length [] [])] [(2, .sl 1 0 (sK 2 (f :: F)).length (sK 2 (f :: F)).length false 4)] [.dead, .cells (encL encSym (sK 2 (f :: F))) 30]
          ⟨good_appNil T23 rfl rfl rfl rfl rfl (fun h _ => kSym.src (some (sK 2 (f :: F)))) (fun h => hne (List.length_eq_zero_iff.1 h)) (by omega), trivial⟩ (by kernel_rfl) ?_)
        exact .ret ⟨.inr rfl, [.sl 1 0 (sK 2 (f :: F)).length (sK 2 (f :: F)).length false 4], by kernel_rfl, .slAll (Nat.zero_le _) (by decide) rfl (kSym.cls _).frzs⟩
    · have hne : sK 1 (a :: A) ++ sK 2 F ≠ [] := fun h => by have := sK_len 1 (a :: A); rw [(List.append_eq_nil_iff.1 h).1] at this; simp at this
      have hlen : (sK 2 F).length = F.length := sK_len _ _
      have hlA : (sK 1 (a :: A)).length = A.length + 1 := sK_len _ _
      have hl3 : (sK 1 (a :: A) ++ sK 2 F).length = A.length + 1 + F.length := by rw [List.length_append, hlA, hlen]
      have hAl2 : A.length + 1 ≤ Lim := hAl
      have hsrc : ∀ h : Heap, srcA h 4 (encS encSym (nz (sK 2 F))) = some (encL encSym (sK 2 F), F.length, []) := fun h => by
        have := kSym.src (h := h) (nz (sK 2 F)); rw [ls_nz, hlen] at this; exact this
      rw [nz_ne hne]
      refine .seq (gw 58 [(2, hApp 1 0 (A.length + 1) 4 false (encL encSym (sK 1 (a :: A))) 30 (encS encSym (nz (sK 2 F))) (encL encSym (sK 2 F)) F.length [] [])] [(2, .sl 1 0 (A.length + 1 + F.length) (A.length + 1 + F.length) false 4)] [.dead, .cells (encL encSym (sK 1 (a :: A)) ++ encL encSym (sK 2 F)) 30]
        ⟨good_app T23 rfl rfl rfl rfl rfl (fun h _ => hsrc h) (.inl rfl) (by rw [kSym.length, hlA]) (kSym.leafs _) (by omega), trivial⟩ (by kernel_rfl) ?_)
      refine .ret ⟨.inr rfl, [.sl 1 0 (A.length + 1 + F.length) (A.length + 1 + F.length) false 4], by kernel_rfl, ?_⟩
      show Frz _ _ _ _ (.vsl (encL encSym (sK 1 (a :: A) ++ sK 2 F)) (sK 1 (a :: A) ++ sK 2 F).length none)
      rw [hl3, encL_append]
      exact .slAll (Nat.zero_le _) (by decide) rfl ((kSym.cls _).append (kSym.cls _)).frzs
end Go.Proofs.Ytfihpghhngfelaa.Lk

