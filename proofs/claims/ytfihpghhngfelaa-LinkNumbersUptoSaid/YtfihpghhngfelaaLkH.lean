/- Facts for symMergeCmpFunc: the middle. Conditions: none (definitions and lemmas). -/
import Derived.Test.YtfihpghhngfelaaLkG
import Derived.Test.YtfihpghhngfelaaLkQ
namespace Go.Proofs.Ytfihpghhngfelaa.Lk
open Go Go.Proofs Go.Proofs.Ytfihpghhngfelaa.Ev
set_option maxRecDepth 100000
set_option linter.unusedVariables false
set_option linter.unusedSimpArgs false
theorem wrapU {n : Nat} (h : n ≤ 4294967295) : IntKind.u64.wrap (n : Int) = n := by
  simp only [IntKind.wrap, IntKind.bits, IntKind.signed]
  simp
  omega
theorem cvU {n : Nat} (h : n ≤ 4294967295) : convA Try.prog 3 168 (.int .i64 n) = some (.int .u64 n) := by
  have : convA Try.prog 3 168 (.int .i64 n) = some (.int .u64 (IntKind.u64.wrap (n : Int))) := by kernel_rfl
  rw [this, wrapU h]
theorem cvI {n : Nat} (h : n ≤ 4294967295) : convA Try.prog 168 3 (.int .u64 n) = some (.int .i64 n) := by
  have : convA Try.prog 168 3 (.int .u64 n) = some (.int .i64 (IntKind.i64.wrap (n : Int))) := by kernel_rfl
  rw [this, wrap64_id (by omega) (by omega)]
theorem shr1 {t : TypeId} {n : Nat} : binA Try.prog E0 .shr t (.int .u64 n) (.int .u64 1) = some (.int .u64 ((n / 2 : Nat) : Int)) := by
  have : binA Try.prog E0 .shr t (.int .u64 n) (.int .u64 1) = some (.int .u64 ((n : Int).fdiv 2)) := by kernel_rfl
  rw [this, Int.fdiv_eq_ediv_of_nonneg _ (by omega)]
  simp
/-- A conversion's value. -/
def hCv (n : Nat) (x v : AV) : Hint := { vals := [x], len := n, v := v }
theorem good_cv {P : Program} {E : Eqs} {Φ : Orc} {s d : TypeId} {n : Nat} {a v : AV} {x : Operand} (hh : convA P s d a = some v) : Hint.Good P E Φ (hCv n a v) (.convert s d x) := by
  intro env h lw hv _ _ _
  have hop : (Op.convert s d x).operands.toList = [x] := rfl
  rw [hop] at hv
  simp only [hCv, List.map_cons, List.map_nil, List.cons.injEq, and_true] at hv
  simp only [stepOp, dirOp, pureOp, hv, hh, Option.map_some, hCv]
  rfl
end Go.Proofs.Ytfihpghhngfelaa.Lk
