/- foundrylaw18.LinkSymbols. Conditions: none (definitions and lemmas). -/
import Derived.Test.YtfihpghhngfelaaLkY
namespace Go.Proofs.Ytfihpghhngfelaa.Lk
open Go Go.Proofs Go.Proofs.Ytfihpghhngfelaa.Ev
set_option maxRecDepth 100000
set_option linter.unusedVariables false
set_option linter.unusedSimpArgs false

def isT (x : Option (AV × Heap × Nat)) : Bool := match x with | some (.bool b, _, _) => b | _ => false
theorem isT_some {x : Option (AV × Heap × Nat)} (h : isT x = true) : ∃ q, x = some (.bool true, q) := by
  unfold isT at h
  split at h
  · rename_i b hp lw; subst h; exact ⟨_, rfl⟩
  · cases h
theorem live_ok : OrcAt Try.prog 11 [] [] (.bool true) [] 0 := by
  obtain ⟨q, e⟩ := isT_some (x := evF Try.prog E0 300 noOrc 40 11 [] []) (by kernel_rfl)
  exact (evF_ok E0_ok mix0 (noOrc_ok _) 40 11 [] [] _ _ _ e).plain0 (.bool _)
theorem symbols_walk (o m : Option (List DObj)) (s : Option (List DSym)) (h9 : OrcAt Try.prog 9 [encS encObj o] [] (encS encObj m) [] 0) (h8 : OrcAt Try.prog 8 [encS encObj m] [] (encS encSym s) [] 0) (h10 : OrcAt Try.prog 10 [encS encObj o] [] (encS encSym s) [] 0) (hs : (ls s).length ≤ 2097152) :
    OrcAt Try.prog 3 [encS encObj o] [] (.bool true) [] 0 := by
  refine OrcAt.of_body0 Try.func3 rfl rfl ?_
  refine .seq ?_
  refine gw 73 [] [(0, encS encObj o)] [] trivial (by kernel_rfl) ?_
  refine .seq ?_
  refine .go E0_ok (orOrc_ok (pureOrc_ok (h9) (.cons (.encS imObj _) (.nil)) (.encS imObj _)) (pureOrc_ok (h8) (.cons (.encS imObj _) (.nil)) (.encS imSym _))) mix0 73 [(1, hCall 0 9 [encS encObj o] (encS encObj m)), (2, hCall 0 8 [encS encObj m] (encS encSym s))] [(0, encS encObj o), (3, encS encSym s)] [] 0 ⟨good_callO (orL (pure_self)) rfl rfl, good_callO (orR (pure_ne (by decide)) pure_self) rfl rfl, trivial⟩ (by kernel_rfl) ?_
  refine .seq ?_
  refine .go E0_ok (pureOrc_ok (h10) (.cons (.encS imObj _) (.nil)) (.encS imSym _)) mix0 73 [(1, hCall 0 10 [encS encObj o] (encS encSym s))] [(3, encS encSym s), (4, encS encSym s)] [] 0 ⟨good_call rfl rfl, trivial⟩ (by kernel_rfl) ?_
  refine .seq ?_
  refine .seq ?_
  refine gw 73 [(1, hLen 0 (encS encSym s) (ls s).length), (3, hLen 0 (encS encSym s) (ls s).length), (4, hBin 0 (iN ((ls s).length)) (iN ((ls s).length)) (.bool false))] [(3, encS encSym s), (4, encS encSym s), (15, .bool false)] [] ⟨good_len T23.hu, good_len T27.hu, good_bin (cmpNeq (decide_eq_false (fun h => h rfl))), trivial⟩ (by kernel_rfl) ?_
  refine .cond (b := false) rfl ?_
  refine .skip ?_
  refine .seq ?_
  refine .seq ?_
  refine gw 73 [] [(3, encS encSym s), (4, encS encSym s), (5, iN 0)] [] trivial (by kernel_rfl) ?_
  refine .blk ?_
  refine .loopG (fun mu sst => ∃ i, mu = (ls s).length - i ∧ (i ≤ (ls s).length) ∧ sst = ⟨sp 73 [(3, encS encSym s), (4, encS encSym s), (5, iN i)], [], 0⟩) ((ls s).length) ⟨⟨sp 73 [(3, encS encSym s), (4, encS encSym s), (5, iN 0)], [], 0⟩, Pln.ofT [] (by decide) rfl trivial ⟨⟨_, rfl, kSym.clS _ _ _ _⟩, ⟨_, rfl, kSym.clS _ _ _ _⟩, ⟨_, rfl, .int _ _⟩, trivial⟩, 0, rfl, Nat.zero_le _, rfl⟩ ?_
  rintro mu sst ⟨i, rfl, hi, rfl⟩
  refine .seq ?_
  refine .seq ?_
  refine gw 73 [(2, hLen 0 (encS encSym s) (ls s).length), (3, hBin 0 (iN i) (iN ((ls s).length)) (.bool (decide (i < (ls s).length))))] [(3, encS encSym s), (4, encS encSym s), (5, iN i), (19, .bool (decide (i < (ls s).length)))] [] ⟨good_len T23.hu, good_bin (cmpLss rfl), trivial⟩ (by kernel_rfl) ?_
  by_cases hlt : i < (ls s).length
  · skip
    refine .condT hlt rfl ?_
    obtain ⟨x, hx⟩ : ∃ x, (ls s)[i]? = some x := ⟨_, List.getElem?_eq_getElem hlt⟩
    refine .skip ?_
    refine .seq ?_
    refine .blk ?_
    refine .seq ?_
    refine gw 73 [(2, hIdxE 0 encSym s (i) x), (7, hIdxE 0 encSym s (i) x), (10, hBin 0 (.str x.mod) (.str x.mod) (.bool false)), (14, hIdxE 0 encSym s (i) x), (19, hIdxE 0 encSym s (i) x), (22, hBin 0 (.str x.name) (.str x.name) (.bool false)), (27, hIdxE 0 encSym s (i) x), (32, hIdxE 0 encSym s (i) x), (35, hBin 0 (.int .i64 x.kind) (.int .i64 x.kind) (.bool false)), (40, hIdxE 0 encSym s (i) x), (45, hIdxE 0 encSym s (i) x), (48, hBin 0 (.int .i64 x.n) (.int .i64 x.n) (.bool false))] [(3, encS encSym s), (4, encS encSym s), (5, iN i), (71, .bool false)] [] ⟨good_idxE T23.hu T23.hs kSym hx, good_idxE T27.hu T27.hs kSym hx, good_bin (strNeq (strEq_self x.mod)), good_idxE T23.hu T23.hs kSym hx, good_idxE T27.hu T27.hs kSym hx, good_bin (strNeq (strEq_self x.name)), good_idxE T23.hu T23.hs kSym hx, good_idxE T27.hu T27.hs kSym hx, good_bin (icNeq (by simp)), good_idxE T23.hu T23.hs kSym hx, good_idxE T27.hu T27.hs kSym hx, good_bin (icNeq (by simp)), trivial⟩ (by kernel_rfl) ?_
    refine .cond (b := false) rfl ?_
    refine .skip ?_
    refine gw 73 [(1, hBin 0 (iN i) (iN 1) (iN (i + 1)))] [(3, encS encSym s), (4, encS encSym s), (5, iN (i + 1))] [] ⟨good_bin (addN (by omega)), trivial⟩ (by kernel_rfl) ?_
    exact ⟨⟨sp 73 [(3, encS encSym s), (4, encS encSym s), (5, iN (i + 1))], [], 0⟩, Pln.ofT [] (by decide) rfl trivial ⟨⟨_, rfl, kSym.clS _ _ _ _⟩, ⟨_, rfl, kSym.clS _ _ _ _⟩, ⟨_, rfl, .int _ _⟩, trivial⟩, (ls s).length - (i + 1), by omega, (i + 1), rfl, by omega, rfl⟩
  · skip
    refine .condF hlt rfl ?_
    refine .exit ⟨fun _ => ?_, fun h => absurd rfl h⟩
    refine .seq ?_
    refine .go E0_ok (pureOrc_ok (live_ok) (.nil) .bool) mix0 73 [(0, hCall 0 11 [] (.bool true))] [(2, .bool true)] [] 0 ⟨good_call rfl rfl, trivial⟩ (by kernel_rfl) ?_
    refine .ret ?_
    exact ⟨.inr rfl, [.bool true], by kernel_rfl, .bool _⟩
theorem pVo_objL (o : DObj) : pVo (objL o) = pVo o := by simp [pVo, objL, ls_nz]
theorem pFo_objL (o : DObj) : pFo (objL o) = pFo o := by simp [pFo, objL, ls_nz, fnNL, Function.comp_def]
theorem st_objL (l : List DObj) : st oLt (l.map objL) = (st oLt l).map objL := by
  have hi : ∀ (x : DObj) (s : List DObj), ins oLt (objL x) (s.map objL) = (ins oLt x s).map objL := by
    intro x s
    induction s with
    | nil => rfl
    | cons y s ih =>
      simp only [List.map_cons, ins]
      have : oLt (objL x) (objL y) = oLt x y := rfl
      rw [this, ih]
      split <;> rfl
  have : ∀ (l s : List DObj), (l.map objL).foldl (fun s x => ins oLt x s) (s.map objL) = (l.foldl (fun s x => ins oLt x s) s).map objL := by
    intro l
    induction l with
    | nil => intro s; rfl
    | cons x l ih => intro s; rw [List.map_cons, List.foldl_cons, List.foldl_cons, hi, ih]
  exact this l []
theorem symL_mine (o : Option (List DObj)) : symL (ls ((mineL o).map (st oLt))) = symL (st oLt (ls o)) := by
  rw [ls_map _ rfl, mineL, ls_nz, st_objL]
  simp only [symL, pV, pF, List.flatMap_map, pVo_objL, pFo_objL]
/-- What the objects may be. -/
structure Bnd (l : List DObj) : Prop where
  lim : ObjsLim l
  mod : ∀ x ∈ l, x.mod.size ≤ Lim
  v : (pV l).length ≤ Lim
  f : (pF l).length ≤ Lim
theorem flm_st (f : DObj → List Nm) (l : List DObj) : ((st oLt l).flatMap f).length = (l.flatMap f).length := by
  have hi : ∀ (x : DObj) (s : List DObj), ((ins oLt x s).flatMap f).length = (s.flatMap f).length + (f x).length := by
    intro x s
    induction s with
    | nil => simp [ins]
    | cons y s ih =>
      simp only [ins]
      split
      · simp; omega
      · simp only [List.flatMap_cons, List.length_append, ih]; omega
  have : ∀ (l s : List DObj), ((l.foldl (fun s x => ins oLt x s) s).flatMap f).length = (s.flatMap f).length + (l.flatMap f).length := by
    intro l
    induction l with
    | nil => intro s; simp
    | cons x l ih => intro s; rw [List.foldl_cons, ih, hi, List.flatMap_cons, List.length_append]; omega
  have h := this l []
  rw [List.flatMap_nil, List.length_nil, Nat.zero_add] at h
  exact h
theorem objLim_objL {o : DObj} (h : ObjLim o) : ObjLim (objL o) := by
  obtain ⟨h1, h2, h3, h4⟩ := h
  refine ⟨by simp [objL, ls_nz]; exact h1, by simp [objL, ls_nz]; exact h2, by simp [objL, ls_nz]; exact h3, fun x hx => ?_⟩
  simp only [objL, ls_nz, List.mem_map] at hx
  obtain ⟨y, hy, rfl⟩ := hx
  obtain ⟨k1, k2, k3⟩ := h4 y hy
  exact ⟨by simpa [fnNL, fnL, ls] using k1, by simpa [fnNL, fnL, ls] using k2, by simpa [fnNL, fnL, ls_nz] using k3⟩
theorem Bnd.sorted {o : Option (List DObj)} (b : Bnd (ls o)) : Bnd (ls ((mineL o).map (st oLt))) := by
  have e : ls ((mineL o).map (st oLt)) = (st oLt (ls o)).map objL := by rw [ls_map _ rfl, mineL, ls_nz, st_objL]
  rw [e]
  refine ⟨⟨by rw [List.length_map, st_length]; exact b.lim.1, fun x hx => ?_⟩, fun x hx => ?_, ?_, ?_⟩
  · obtain ⟨y, hy, rfl⟩ := List.mem_map.1 hx
    exact objLim_objL (b.lim.2 y ((st_mem oOrd).1 hy))
  · obtain ⟨y, hy, rfl⟩ := List.mem_map.1 hx
    exact b.mod y ((st_mem oOrd).1 hy)
  · simp only [pV, List.flatMap_map, pVo_objL]; rw [flm_st]; exact b.v
  · simp only [pF, List.flatMap_map, pFo_objL]; rw [flm_st]; exact b.f
theorem Symbols_mine (o : Option (List DObj)) (b : Bnd (ls o)) : OrcAt Try.prog 8 [encS encObj (mineL o)] [] (encS encSym (nz (symL (st oLt (ls o))))) [] 0 := by
  have bs := b.sorted
  have hml : (ls (mineL o)).length ≤ Lim := by rw [mineL, ls_nz, List.length_map]; exact b.lim.1
  have h := Symbols_ok (mineL o) ((mineL o).map (st oLt)) (ordered_ok _ hml) bs.lim.1 bs.v bs.f bs.lim.2
  rw [symL_mine] at h
  exact h
theorem symL_len (l : List DObj) : (symL l).length = (pV l).length + (pF l).length := by rw [symL, List.length_append, sK_len, sK_len]
theorem LinkSymbols_ok (o : Option (List DObj)) (b : Bnd (ls o)) : OrcAt Try.prog 3 [encS encObj o] [] (.bool true) [] 0 := by
  have hLim : Lim = 1048576 := rfl
  have e : ls (nz (st oLt (ls o))) = st oLt (ls o) := ls_nz _
  have hv : (pV (st oLt (ls o))).length ≤ Lim := by rw [pV, flm_st]; exact b.v
  have hf : (pF (st oLt (ls o))).length ≤ Lim := by rw [pF, flm_st]; exact b.f
  have h10 := refSymbols_ok o (nz (st oLt (ls o))) (refSorted_ok o b.lim.1 b.mod) (by rw [e, st_length]; exact b.lim.1) (by rw [e]; exact hv) (by rw [e]; exact hf) (by rw [e]; exact fun x hx => b.lim.2 x ((st_mem oOrd).1 hx))
  rw [e] at h10
  exact symbols_walk o (mineL o) (nz (symL (st oLt (ls o)))) (mine_ok o b.lim) (Symbols_mine o b) h10 (by rw [ls_nz, symL_len]; omega)
end Go.Proofs.Ytfihpghhngfelaa.Lk

