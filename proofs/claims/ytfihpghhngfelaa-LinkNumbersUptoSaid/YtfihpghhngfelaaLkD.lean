/- The comparison of two objects' names. Conditions: none (definitions and lemmas). -/
import Derived.Test.YtfihpghhngfelaaLkC
namespace Go.Proofs.Ytfihpghhngfelaa.Lk
open Go Go.Proofs Go.Proofs.Ytfihpghhngfelaa.Ev
set_option maxRecDepth 100000
set_option linter.unusedVariables false
set_option linter.unusedSimpArgs false

theorem mine_none : OrcAt Try.prog 9 [.nils] [] (encS encObj (mineL none)) [] 0 :=
  evF_ok E0_ok mix0 (noOrc_ok _) 2 9 [.nils] [] _ _ _ (show evF Try.prog E0 60 noOrc 2 9 [.nils] [] = some (.nils, [], 0) by kernel_rfl)
theorem mine_ok (l : Option (List DObj)) (hl : ObjsLim (ls l)) : OrcAt Try.prog 9 [encS encObj l] [] (encS encObj (mineL l)) [] 0 := by
  cases l with
  | none => exact mine_none
  | some l => exact mine_some l hl

def cmpS (a b : ByteArray) : Int := if strLt a b = true then -1 else if (!(strLt a b || strEq a b)) = true then 1 else 0
theorem strEq_self (a : ByteArray) : strEq a a = true := by simp [strEq]
theorem isNaN_ok (a : ByteArray) : OrcAt Try.prog 60 [.str a] [] (.bool false) [] 0 := by
  have e : evF Try.prog E0 60 noOrc 2 60 [.str a] [] = some (.bool (!strEq a a), [], 0) := by kernel_rfl
  rw [strEq_self] at e
  exact evF_ok E0_ok mix0 (noOrc_ok _) 2 60 [.str a] [] _ _ _ e
theorem nanOrc (a : ByteArray) : OrcOk Try.prog (pureOrc 60 [.str a] (.bool false)) := pureOrc_ok (isNaN_ok a) (.cons .str .nil) .bool
theorem compare_ok (a b : ByteArray) : OrcAt Try.prog 48 [.str a, .str b] [] (.int .i64 (cmpS a b)) [] 0 := by
  refine OrcAt.of_body0 Try.func48 rfl rfl ?_
  refine .seq (gw 20 [] [(0, .str a), (1, .str b)] [] trivial (by kernel_rfl) ?_)
  refine .seq (.go E0_ok (nanOrc a) mix0 20 [(1, hCall 0 60 [.str a] (.bool false))] [(0, .str a), (1, .str b), (5, .bool false)] [] 0 ⟨good_call rfl rfl, trivial⟩ (by kernel_rfl) ?_)
  refine .seq (.go E0_ok (nanOrc b) mix0 20 [(1, hCall 0 60 [.str b] (.bool false))] [(0, .str a), (1, .str b), (5, .bool false), (6, .bool false)] [] 0 ⟨good_call rfl rfl, trivial⟩ (by kernel_rfl) ?_)
  refine .seq (.seq (gw 20 [] [(0, .str a), (1, .str b), (6, .bool false), (11, .bool false)] [] trivial (by kernel_rfl) ?_))
  refine .cond (b := false) rfl (.skip ?_)
  refine .seq (.seq (gw 20 [] [(0, .str a), (1, .str b), (13, .bool false)] [] trivial (by kernel_rfl) ?_))
  refine .cond (b := false) rfl (.skip ?_)
  refine .seq (.seq (gw 20 [] [(0, .str a), (1, .str b), (16, .bool (strLt a b))] [] trivial (by kernel_rfl) ?_))
  cases h1 : strLt a b with
  | true =>
    refine .cond (b := true) rfl (.seq (gw 20 [] [(4, .int .i64 (-1))] [] trivial (by kernel_rfl) ?_))
    refine .ret ⟨.inr rfl, [.int .i64 (-1)], by kernel_rfl, ?_⟩
    simp only [cmpS, h1, if_true]
    exact .int _ _
  | false =>
    refine .cond (b := false) rfl (.skip ?_)
    refine .seq (.seq (gw 20 [] [(0, .str a), (1, .str b), (19, .bool (!(strLt a b || strEq a b)))] [] trivial (by kernel_rfl) ?_))
    have h3 : cmpS a b = if (!(strLt a b || strEq a b)) = true then 1 else 0 := by simp only [cmpS, h1, Bool.false_eq_true, if_false]
    cases h2 : (!(strLt a b || strEq a b)) with
    | true =>
      refine .cond (b := true) rfl (.seq (gw 20 [] [(4, .int .i64 1)] [] trivial (by kernel_rfl) ?_))
      refine .ret ⟨.inr rfl, [.int .i64 1], by kernel_rfl, ?_⟩
      rw [h3, h2]
      exact .int _ _
    | false =>
      refine .cond (b := false) rfl (.skip ?_)
      refine .seq (gw 20 [] [(4, .int .i64 0)] [] trivial (by kernel_rfl) ?_)
      refine .ret ⟨.inr rfl, [.int .i64 0], by kernel_rfl, ?_⟩
      rw [h3, h2]
      exact .int _ _
theorem cmp_ok (a b : ByteArray) : OrcAt Try.prog 39 [.str a, .str b] [] (.int .i64 (cmpS a b)) [] 0 := by
  refine OrcAt.of_body0 Try.func39 rfl rfl ?_
  refine .seq (gw 8 [] [(0, .str a), (1, .str b)] [] trivial (by kernel_rfl) ?_)
  refine .seq (.go E0_ok (pureOrc_ok (compare_ok a b) (.cons .str (.cons .str .nil)) .int) mix0 8 [(2, hCall 0 48 [.str a, .str b] (.int .i64 (cmpS a b)))] [(4, .int .i64 (cmpS a b))] [] 0 ⟨good_call rfl rfl, trivial⟩ (by kernel_rfl) ?_)
  exact .ret ⟨.inr rfl, [.int .i64 (cmpS a b)], by kernel_rfl, .int _ _⟩
theorem ordCmp_ok (x y : DObj) : OrcAt Try.prog 38 [.agg (encObj x), .agg (encObj y)] [] (.int .i64 (cmpS x.mod y.mod)) [] 0 := by
  refine OrcAt.of_body0 Try.func38 rfl rfl ?_
  refine .seq (gw 10 [] [(2, .ptr 0 0), (3, .ptr 1 0)] [.cells (encObj x) 43, .cells (encObj y) 43] trivial (by kernel_rfl) ?_)
  refine .seq (.go E0_ok (pureOrc_ok (cmp_ok x.mod y.mod) (.cons .str (.cons .str .nil)) .int) mix0 10 [(4, hCall 2 39 [.str x.mod, .str y.mod] (.int .i64 (cmpS x.mod y.mod)))] [(4, .int .i64 (cmpS x.mod y.mod))] [.cells (encObj x) 43, .cells (encObj y) 43] 0 ⟨good_call rfl rfl, trivial⟩ (by kernel_rfl) ?_)
  exact .ret ⟨.inr rfl, [.int .i64 (cmpS x.mod y.mod)], by kernel_rfl, .int _ _⟩
end Go.Proofs.Ytfihpghhngfelaa.Lk
