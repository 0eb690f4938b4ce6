/- foundrylaw18.fn. Conditions: none (definitions and lemmas). -/
import Derived.Test.YtfihpghhngfelaaLkA
namespace Go.Proofs.Ytfihpghhngfelaa.Lk
open Go Go.Proofs Go.Proofs.Ytfihpghhngfelaa.Ev
set_option maxRecDepth 100000
set_option linter.unusedVariables false
set_option linter.unusedSimpArgs false

theorem room {n k b : Nat} (h : n ≤ Lim) (hk : k ≤ 2) (hb : b ≤ 128) : (n + k) * b ≤ 140737488355328 := by
  unfold Lim at h
  have h1 : (n + k) * b ≤ (1048576 + 2) * 128 := Nat.mul_le_mul (by omega) hb
  omega
theorem room0 {n b : Nat} (h : n ≤ Lim) (hb : b ≤ 128) : (0 + n) * b ≤ 140737488355328 := by
  have := room (k := 0) h (by omega) hb
  simpa using this
/-- A region without calls. -/
theorem vw (k n : Nat) (H : Hints) (T : List (Nat × AV)) (B : List (Nat × Blk)) (σ : List Nat) (l : List (Nat × AV)) (K : Heap)
    {rid : Nat} {ops : Array Oper} {draw : Bool} {s : St} {R : Ex → St → Prop} (hH : HintsOk Try.prog E0 noOrc ops.toList H)
    (e : viewX ops.toList draw (T.map (·.1)) (B.map (·.1)) (runX Try.prog E0 noOrc H ops.toList 0 ops.toList s.env s.h s.lw) = some (T.map fun p => some p.2, B.map fun p => some p.2, k, n, 0, true, H.map (·.2.want), H.map (·.2.want)))
    (hσ : σ.Nodup) (hK : KeptV (spH n B) B σ σ K) (hl : LiveV (spH n B) T σ l) (h : R .normal ⟨sp k l, K, 0⟩) : CodeB Try.prog [] (.region rid ops draw) s R :=
  .view E0_ok (noOrc_ok _) mix0 H T B σ l K hH e hσ hK hl h
theorem gw {h0 : Heap} (k : Nat) (H : Hints) (T : List (Nat × AV)) (h' : Heap)
    {rid : Nat} {ops : Array Oper} {draw : Bool} {s : St} {R : Ex → St → Prop} (hH : HintsOk Try.prog E0 noOrc ops.toList H)
    (e : viewG ops.toList draw (T.map (·.1)) (runX Try.prog E0 noOrc H ops.toList 0 ops.toList s.env s.h s.lw) = some (T.map fun p => some p.2, h', k, 0, true, H.map (·.2.want), H.map (·.2.want)))
    (h : R .normal ⟨sp k T, h', 0⟩) : CodeB Try.prog h0 (.region rid ops draw) s R := .go E0_ok (noOrc_ok _) mix0 k H T h' 0 hH e h
theorem anys4 {h : Heap} {n : Nat} {σ : List Nat} {a b c d : AV} : Frzs h n σ [a, b, c, d] [.any, .any, .any, .any] := .cons (.any _) (.cons (.any _) (.cons (.any _) (.cons (.any _) .nil)))

/-- The cells of out. -/
def fnCells (f : DFn) (code : AV) : List AV := [.vsl (encL encInt (ls f.params)) (ls f.params).length none, .int .i64 f.result, .vsl (encL encInt (ls f.locals)) (ls f.locals).length none, code]
def fnHeap (f : DFn) (i : Nat) : Heap := match i with
  | 0 => [.cells (encFn f) 82, .cells [.any, .any, .any, .any] 70, .cells (fnCells f .nils) 70]
  | i + 1 => [.cells (encFn f) 82, .cells [.any, .any, .any, .any] 70, .cells (fnCells f (.sl 3 0 (i + 1) (i + 1) false 4)) 70, .cells (encL encIns ((ls f.code).take (i + 1))) 75]
def fnSt (f : DFn) (i : Nat) : St := ⟨sp 51 [(1, .ptr 0 0), (2, .ptr 1 0), (3, .ptr 2 0), (4, .int .i64 i)], fnHeap f i, 0⟩

theorem fnHeap_frz (f : DFn) (i : Nat) : True := trivial
theorem fn_round (f : DFn) (l : List DIns) (hf : f.code = some l) (hl : FnLim f) (i : Nat) (a : DIns) (ha : l[i]? = some a) : True := trivial
theorem fn_ok (f : DFn) (hl : FnLim f) : OrcAt Try.prog 19 [.agg (encFn f)] [] (.agg (encFn (fnL f))) [] 0 := by
  refine OrcAt.of_body0 Try.func19 rfl rfl ?_
  refine .seq (vw 51 2 [] [(1, .ptr 0 0), (2, .ptr 1 0)] [(0, .cells (encFn f) 82), (1, .cells [.nils, .int .i64 0, .nils, .nils] 70)] [0, 1] [(1, .ptr 0 0), (2, .ptr 1 0)] [.cells (encFn f) 82, .cells [.any, .any, .any, .any] 70]
    trivial (by kernel_rfl) (by decide) ⟨.inl ⟨_, rfl, .same (clFn f)⟩, .inl ⟨_, rfl, .all anys4⟩, trivial⟩ ⟨⟨_, rfl, .ptrKeep (j := 0) rfl⟩, ⟨_, rfl, .ptrKeep (j := 1) rfl⟩, trivial⟩ ?_)
  refine .seq (vw 51 7 [(4, hApp 3 2 0 1 true [] 3 (encS encInt f.params) (encL encInt (ls f.params)) (ls f.params).length [] []), (12, hApp 5 4 0 1 true [] 3 (encS encInt f.locals) (encL encInt (ls f.locals)) (ls f.locals).length [] [])]
    [(1, .ptr 0 0), (2, .ptr 1 0), (3, .ptr 6 0)]
    [(0, .cells (encFn f) 82), (1, .cells [.any, .any, .any, .any] 70), (3, .cells (encL encInt (ls f.params)) 3), (5, .cells (encL encInt (ls f.locals)) 3), (6, .cells [.sl 3 0 (0 + (ls f.params).length) (0 + (ls f.params).length) false 1, .int .i64 f.result, .sl 5 0 (0 + (ls f.locals).length) (0 + (ls f.locals).length) false 1, .nils] 70)]
    [0, 1, 6] [(1, .ptr 0 0), (2, .ptr 1 0), (3, .ptr 2 0)] [.cells (encFn f) 82, .cells [.any, .any, .any, .any] 70, .cells (fnCells f .nils) 70]
    ⟨good_app T65 rfl rfl rfl rfl rfl (fun h _ => kInt.src f.params) (.inr rfl) rfl (kInt.leafs _) (room0 hl.1 (by omega)), good_app T65 rfl rfl rfl rfl rfl (fun h _ => kInt.src f.locals) (.inr rfl) rfl (kInt.leafs _) (room0 hl.2.1 (by omega)), trivial⟩
    (by kernel_rfl) (by decide) ⟨.inl ⟨_, rfl, .same (clFn f)⟩, .inl ⟨_, rfl, .all anys4⟩, .inl ⟨_, rfl, .all ?_⟩, trivial⟩ ⟨⟨_, rfl, .ptrKeep (j := 0) rfl⟩, ⟨_, rfl, .ptrKeep (j := 1) rfl⟩, ⟨_, rfl, .ptrKeep (j := 2) rfl⟩, trivial⟩ ?_)
  · have e1 : 0 + (ls f.params).length = (ls f.params).length := Nat.zero_add _
    have e2 : 0 + (ls f.locals).length = (ls f.locals).length := Nat.zero_add _
    rw [e1, e2]
    exact .cons (.slAll (Nat.zero_le _) (by decide) rfl (kInt.cls _).frzs) (.cons (.int _ _) (.cons (.slAll (Nat.zero_le _) (by decide) rfl (kInt.cls _).frzs) (.cons .nils .nil)))
  refine .seq (.seq (vw 51 3 [] [(1, .ptr 0 0), (2, .ptr 1 0), (3, .ptr 2 0), (4, .int .i64 0)] [(0, .cells (encFn f) 82), (1, .cells [.any, .any, .any, .any] 70), (2, .cells (fnCells f .nils) 70)]
    [0, 1, 2] [(1, .ptr 0 0), (2, .ptr 1 0), (3, .ptr 2 0), (4, .int .i64 (0 : Nat))] (fnHeap f 0) trivial (by kernel_rfl) (by decide)
    ⟨.inl ⟨_, rfl, .same (clFn f)⟩, .inl ⟨_, rfl, .all anys4⟩, .inl ⟨_, rfl, .all ?_⟩, trivial⟩ ⟨⟨_, rfl, .ptrKeep (j := 0) rfl⟩, ⟨_, rfl, .ptrKeep (j := 1) rfl⟩, ⟨_, rfl, .ptrKeep (j := 2) rfl⟩, ⟨_, rfl, .int _ _⟩, trivial⟩ ?_))
  · exact .cons (Cl.vsl (kInt.cls _) _ _ _) (.cons (.int _ _) (.cons (Cl.vsl (kInt.cls _) _ _ _) (.cons .nils .nil)))
  refine .block (.loop (fun m s => ∃ i, m = (ls f.code).length - i ∧ i ≤ (ls f.code).length ∧ s = fnSt f i) (ls f.code).length ⟨0, rfl, Nat.zero_le _, rfl⟩ ?_)
  rintro m s ⟨i, rfl, hi, rfl⟩
  have hn2 : (ls f.code).length ≤ Lim := hl.2.2
  have hLim : Lim = 1048576 := rfl
  refine .seq (.seq (.go E0_ok (noOrc_ok _) mix0 51 [(3, hLen (fnHeap f i).length (encS encIns f.code) (ls f.code).length)]
    [(1, .ptr 0 0), (2, .ptr 1 0), (3, .ptr 2 0), (4, .int .i64 i), (23, .bool (decide ((i : Int) < ((ls f.code).length : Int))))] (fnHeap f i) 0 ⟨good_len T80.hu, trivial⟩ (by cases i <;> kernel_rfl) ?_))
  by_cases hlt : (i : Int) < ((ls f.code).length : Int)
  · refine .condT hlt rfl (.skip ?_)
    obtain ⟨a, ha⟩ : ∃ a, (ls f.code)[i]? = some a := ⟨_, List.getElem?_eq_getElem (by omega)⟩
    obtain ⟨fp, fr, fl, fc⟩ := f
    rcases fc with _ | l
    · simp [ls] at ha
    simp only [ls, Option.getD_some] at ha hn2 hlt hi
    have hinc : IntKind.i64.wrap ((i : Int) + 1) = ((i + 1 : Nat) : Int) := incr (by omega)
    have hroom := room (b := 32) (k := 1) (show i ≤ Lim by omega) (by omega) (by omega)
    have hidx : ∀ n x y, Hint.Good Try.prog E0 noOrc (hIdx n (encL encIns l) l.length none i (encIns a ++ encL encIns (l.drop (i + 1)))) (.indexAddr 80 x y) := fun n x y => good_idx_enc T80.hu T80.hs kIns ha
    have hm : ∀ i, l.length - (i + 1) < l.length - i ∨ l.length ≤ i := fun i => by omega
    rcases i with _ | i
    · refine .seq (.block (.go E0_ok (noOrc_ok _) mix0 51
        [(5, hIdx 3 (encL encIns l) l.length none ((0 : Nat) : Int) (encIns a ++ encL encIns (l.drop (0 + 1)))), (11, hIdx 3 (encL encIns l) l.length none ((0 : Nat) : Int) (encIns a ++ encL encIns (l.drop (0 + 1)))),
         (17, hIdx 3 (encL encIns l) l.length none ((0 : Nat) : Int) (encIns a ++ encL encIns (l.drop (0 + 1)))), (22, hAppNil 4 4 75 (.sl 3 0 1 1 true 4) (encIns a) 1 [3] [(3, .cells (encIns a) 75)])]
        [(1, .ptr 0 0), (2, .ptr 1 0), (3, .ptr 2 0), (4, .int .i64 ((0 : Nat) : Int))]
        [.cells (encFn ⟨fp, fr, fl, some l⟩) 82, .cells [.any, .any, .any, .any] 70, .cells (fnCells ⟨fp, fr, fl, some l⟩ (.sl 4 0 1 1 false 4)) 70, .cells (encIns a) 75, .cells (encIns a) 75] 0
        ⟨hidx _ _ _, hidx _ _ _, hidx _ _ _, good_appNil T68 rfl rfl rfl rfl rfl (fun h hh => srcA_sl (hh _ List.mem_cons_self) rfl) (by decide) (by decide), trivial⟩ (by kernel_rfl) ?_))
      refine vw 51 5 [] [(1, .ptr 0 0), (2, .ptr 1 0), (3, .ptr 2 0), (4, .int .i64 (IntKind.i64.wrap (((0 : Nat) : Int) + 1)))]
        [(0, .cells (encFn ⟨fp, fr, fl, some l⟩) 82), (1, .cells [.any, .any, .any, .any] 70), (2, .cells (fnCells ⟨fp, fr, fl, some l⟩ (.sl 4 0 1 1 false 4)) 70), (4, .cells (encIns a) 75)]
        [0, 1, 2, 4] [(1, .ptr 0 0), (2, .ptr 1 0), (3, .ptr 2 0), (4, .int .i64 ((0 + 1 : Nat) : Int))] (fnHeap ⟨fp, fr, fl, some l⟩ 1) trivial (by kernel_rfl) (by decide)
        ⟨.inl ⟨_, rfl, .same (clFn _)⟩, .inl ⟨_, rfl, .all anys4⟩, .inl ⟨_, rfl, .all (.cons (Cl.vsl (kInt.cls _) _ _ _) (.cons (.int _ _) (.cons (Cl.vsl (kInt.cls _) _ _ _) (.cons (.slKeep (j := 3) rfl (Nat.le_refl _) (Nat.le_refl _) (fun e => by simp at e)) .nil))))⟩, .inl ⟨_, rfl, .all ?_⟩, trivial⟩
        ⟨⟨_, rfl, .ptrKeep (j := 0) rfl⟩, ⟨_, rfl, .ptrKeep (j := 1) rfl⟩, ⟨_, rfl, .ptrKeep (j := 2) rfl⟩, ⟨_, rfl, by rw [hinc]; exact .int _ _⟩, trivial⟩ ?_
      · have : encL encIns (l.take (0 + 1)) = encIns a := by rw [encL_take_succ ha]; simp [encL]
        simp only [ls, Option.getD_some, this]
        exact (kIns.cl a).frzs
      · exact ⟨_, by simp only [ls, Option.getD_some]; omega, 1, rfl, by simp [ls]; omega, rfl⟩
    · refine .seq (.block (.go E0_ok (noOrc_ok _) mix0 51
        [(5, hIdx 4 (encL encIns l) l.length none ((i + 1 : Nat) : Int) (encIns a ++ encL encIns (l.drop (i + 1 + 1)))), (11, hIdx 4 (encL encIns l) l.length none ((i + 1 : Nat) : Int) (encIns a ++ encL encIns (l.drop (i + 1 + 1)))),
         (17, hIdx 4 (encL encIns l) l.length none ((i + 1 : Nat) : Int) (encIns a ++ encL encIns (l.drop (i + 1 + 1)))), (22, hApp 5 3 (i + 1) 4 false (encL encIns (l.take (i + 1))) 75 (.sl 4 0 1 1 true 4) (encIns a) 1 [4] [(4, .cells (encIns a) 75)])]
        [(1, .ptr 0 0), (2, .ptr 1 0), (3, .ptr 2 0), (4, .int .i64 ((i + 1 : Nat) : Int))]
        [.cells (encFn ⟨fp, fr, fl, some l⟩) 82, .cells [.any, .any, .any, .any] 70, .cells (fnCells ⟨fp, fr, fl, some l⟩ (.sl 5 0 (i + 1 + 1) (i + 1 + 1) false 4)) 70, .dead, .cells (encIns a) 75, .cells (encL encIns (l.take (i + 1)) ++ encIns a) 75] 0
        ⟨hidx _ _ _, hidx _ _ _, hidx _ _ _, good_app T68 rfl rfl rfl rfl rfl (fun h hh => srcA_sl (hh _ List.mem_cons_self) rfl) (.inl rfl) (by rw [kIns.length, List.length_take, Nat.min_eq_left (by omega)]) (kIns.leaf a) hroom, trivial⟩ (by kernel_rfl) ?_))
      refine vw 51 6 [] [(1, .ptr 0 0), (2, .ptr 1 0), (3, .ptr 2 0), (4, .int .i64 (IntKind.i64.wrap (((i + 1 : Nat) : Int) + 1)))]
        [(0, .cells (encFn ⟨fp, fr, fl, some l⟩) 82), (1, .cells [.any, .any, .any, .any] 70), (2, .cells (fnCells ⟨fp, fr, fl, some l⟩ (.sl 5 0 (i + 1 + 1) (i + 1 + 1) false 4)) 70), (5, .cells (encL encIns (l.take (i + 1)) ++ encIns a) 75)]
        [0, 1, 2, 5] [(1, .ptr 0 0), (2, .ptr 1 0), (3, .ptr 2 0), (4, .int .i64 ((i + 1 + 1 : Nat) : Int))] (fnHeap ⟨fp, fr, fl, some l⟩ (i + 1 + 1)) trivial (by kernel_rfl) (by decide)
        ⟨.inl ⟨_, rfl, .same (clFn _)⟩, .inl ⟨_, rfl, .all anys4⟩, .inl ⟨_, rfl, .all (.cons (Cl.vsl (kInt.cls _) _ _ _) (.cons (.int _ _) (.cons (Cl.vsl (kInt.cls _) _ _ _) (.cons (.slKeep (j := 3) rfl (Nat.le_refl _) (Nat.le_refl _) (fun e => by simp at e)) .nil))))⟩, .inl ⟨_, rfl, .all ?_⟩, trivial⟩
        ⟨⟨_, rfl, .ptrKeep (j := 0) rfl⟩, ⟨_, rfl, .ptrKeep (j := 1) rfl⟩, ⟨_, rfl, .ptrKeep (j := 2) rfl⟩, ⟨_, rfl, by rw [hinc]; exact .int _ _⟩, trivial⟩ ?_
      · simp only [ls, Option.getD_some, encL_take_succ ha]
        exact ((kIns.cls _).append (kIns.cl a)).frzs
      · exact ⟨_, by simp only [ls, Option.getD_some]; omega, i + 1 + 1, rfl, by simp [ls]; omega, rfl⟩
  · refine .condF hlt rfl (.exit ?_)
    have hi2 : i = (ls f.code).length := by omega
    subst hi2
    simp only [↓reduceIte]
    generalize hn0 : (ls f.code).length = n at hn2
    rcases n with _ | n
    · have hc0 : ls f.code = [] := List.length_eq_zero_iff.1 hn0
      refine .seq (.go E0_ok (noOrc_ok _) mix0 51 [] [(2, .ptr 1 0)] [.cells (encFn f) 82, .cells (fnCells f .nils) 70, .cells (fnCells f .nils) 70] 0 trivial (by kernel_rfl) ?_)
      refine .ret ⟨.inr rfl, [.agg (fnCells f .nils)], by kernel_rfl, .agg (.cons (Cl.vsl (kInt.cls _) _ _ _) (.cons (.int _ _) (.cons (Cl.vsl (kInt.cls _) _ _ _) (.cons ?_ .nil))))⟩
      simp only [fnL, hc0, nz, encS]
      exact .nils
    · have hc1 : nz (ls f.code) = some (ls f.code) := by
        cases hc : ls f.code with
        | nil => rw [hc] at hn0; simp at hn0
        | cons a l => rfl
      refine .seq (.go E0_ok (noOrc_ok _) mix0 51 [] [(2, .ptr 1 0)] [.cells (encFn f) 82, .cells (fnCells f (.sl 3 0 (n + 1) (n + 1) false 4)) 70, .cells (fnCells f (.sl 3 0 (n + 1) (n + 1) false 4)) 70, .cells (encL encIns ((ls f.code).take (n + 1))) 75] 0 trivial (by kernel_rfl) ?_)
      refine .ret ⟨.inr rfl, [.agg (fnCells f (.sl 3 0 (n + 1) (n + 1) false 4))], by kernel_rfl, .agg (.cons (Cl.vsl (kInt.cls _) _ _ _) (.cons (.int _ _) (.cons (Cl.vsl (kInt.cls _) _ _ _) (.cons ?_ .nil))))⟩
      simp only [fnL, hc1, encS, hn0]
      refine .slAll (Nat.zero_le _) (by decide) rfl ?_
      rw [List.take_of_length_le (by omega)]
      exact (kIns.cls _).frzs
end Go.Proofs.Ytfihpghhngfelaa.Lk
