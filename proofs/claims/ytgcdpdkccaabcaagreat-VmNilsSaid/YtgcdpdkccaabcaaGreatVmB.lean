/- The given machine's run, for every number of steps. Conditions: none (definitions and lemmas). -/
import Derived.Test.YtgcdpdkccaabcaaGreatVmA
namespace Go.Proofs.YtgcdpdkccaabcaaGreat.Vm
open Go Go.Proofs Go.Proofs.YtgcdpdkccaabcaaGreat.Ev
set_option maxRecDepth 100000
set_option linter.unusedVariables false
set_option linter.unusedSimpArgs false
theorem RoundsB.mk {P : Program} {h0 : Heap} {c : Code} {R : Ex → St → Prop} {n : Nat} {s : St} (h : CodeB P h0 c s fun x s' => match x with | .normal => RoundsB P h0 c R n s' | x => R x s') : RoundsB P h0 c R (n + 1) s := h
theorem Pln.chkI (σ : List Nat) (n : Nat) {s : St} {k t : Nat} {kd : IntKind} {i : Int} {l : List (Nat × AV)} {K : Heap} {lw : Nat} (hi : s.env[t]? = some (.int kd i)) (e : plnC σ n s k l K lw = true) : Pln [] s ⟨sp k ((t, .int kd i) :: l), K, lw⟩ := by
  simp only [plnC, Bool.and_eq_true, beq_iff_eq] at e
  obtain ⟨⟨⟨⟨e1, e2⟩, e3⟩, e4⟩, e5⟩ := e
  exact Pln.of σ e1 e2 (nodupC_ok e3) (keptC_ok e4) ⟨⟨_, hi, .int _ _⟩, liveC_ok e5⟩
theorem subI {t : TypeId} {n : Int} {a b : Int} (h : a - 1 = b) (h1 : 0 ≤ b) (h2 : b ≤ 65536) : binA Tryz.prog E0 .sub t (.int .i64 a) (.int .i64 1) = some (.int .i64 b) := by
  have : IntKind.i64.wrap (a - 1) = b := by rw [h, wrap64_id (by omega) (by omega)]
  show some (AV.int .i64 (IntKind.i64.wrap (a - 1))) = _
  rw [this]
def K1 : Heap :=
  [.cells [.nils, .vsl [.nils, .int .i64 1, .nils, .vsl [.int .i64 1, .int .i64 0, .int .i64 1, .int .u64 5, .int .i64 12, .int .i64 0, .int .i64 0, .int .u64 0, .int .i64 1, .int .i64 0, .int .i64 1, .int .u64 7, .int .i64 11, .int .i64 0, .int .i64 0, .int .u64 0] 4 none] 1 none, .int .i64 0, .nils, .int .i64 0, .nils, .sl 1 0 1 1 false 5, .nils, .int .i64 0, .int .i64 0, .int .i64 0, .int .i64 0, .nilf, .fn 35 [] [], .fn 37 [] [], .fn 38 [] [], .fn 40 [] [], .fn 41 [] [], .fn 42 [] [], .fn 45 [] [], .fn 46 [] [], .fn 47 [] [], .fn 48 [] [], .fn 49 [] [], .fn 50 [] [], .fn 51 [] [], .fn 52 [] [], .fn 53 [] [], .fn 54 [] [], .fn 55 [] []] 74,
    .cells [.int .i64 0, .int .i64 0, .nils, .nils, .nils] 85]
def H0 : Heap :=
  [.cells [.nils, .vsl [.nils, .int .i64 1, .nils, .vsl [.int .i64 1, .int .i64 0, .int .i64 1, .int .u64 5, .int .i64 12, .int .i64 0, .int .i64 0, .int .u64 0, .int .i64 1, .int .i64 0, .int .i64 1, .int .u64 7, .int .i64 11, .int .i64 0, .int .i64 0, .int .u64 0] 4 none] 1 none, .int .i64 0, .nils, .int .i64 0, .nils, .sl 1 0 1 1 false 5, .nils, .int .i64 0, .int .i64 0, .int .i64 0, .int .i64 0, .nilf, .fn 35 [] [], .fn 37 [] [], .fn 38 [] [], .fn 40 [] [], .fn 41 [] [], .fn 42 [] [], .fn 45 [] [], .fn 46 [] [], .fn 47 [] [], .fn 48 [] [], .fn 49 [] [], .fn 50 [] [], .fn 51 [] [], .fn 52 [] [], .fn 53 [] [], .fn 54 [] [], .fn 55 [] []] 74,
    .cells [.int .i64 0, .int .i64 0, .nils, .nils, .nils] 85,
    .cells [.int .i64 0, .int .i64 0, .int .i64 0] 38]
def H1 : Heap :=
  [.cells [.nils, .vsl [.nils, .int .i64 1, .nils, .vsl [.int .i64 1, .int .i64 0, .int .i64 1, .int .u64 5, .int .i64 12, .int .i64 0, .int .i64 0, .int .u64 0, .int .i64 1, .int .i64 0, .int .i64 1, .int .u64 7, .int .i64 11, .int .i64 0, .int .i64 0, .int .u64 0] 4 none] 1 none, .int .i64 0, .nils, .int .i64 0, .nils, .sl 1 0 1 1 false 5, .nils, .int .i64 0, .int .i64 0, .int .i64 0, .int .i64 1, .nilf, .fn 35 [] [], .fn 37 [] [], .fn 38 [] [], .fn 40 [] [], .fn 41 [] [], .fn 42 [] [], .fn 45 [] [], .fn 46 [] [], .fn 47 [] [], .fn 48 [] [], .fn 49 [] [], .fn 50 [] [], .fn 51 [] [], .fn 52 [] [], .fn 53 [] [], .fn 54 [] [], .fn 55 [] []] 74,
    .cells [.int .i64 0, .int .i64 1, .nils, .sl 11 0 1 1 false 2, .nils] 85,
    .cells [.int .i64 0, .int .i64 0, .int .i64 0] 38,
    .cells [.ptr 0 0] 28,
    .cells [.ptr 1 0] 97,
    .cells [.int .i64 0] 3,
    .cells [.int .i64 0] 3,
    .cells [.int .i64 1, .int .i64 0, .int .i64 1, .int .u64 5] 66,
    .cells [.int .i64 1, .int .i64 0, .int .i64 1, .int .u64 5] 66,
    .cells [.int .i64 1, .int .u64 5] 57,
    .cells [.int .i64 1, .int .u64 5] 57,
    .cells [.int .i64 1, .int .u64 5] 57]
def H2 : Heap :=
  [.cells [.nils, .vsl [.nils, .int .i64 1, .nils, .vsl [.int .i64 1, .int .i64 0, .int .i64 1, .int .u64 5, .int .i64 12, .int .i64 0, .int .i64 0, .int .u64 0, .int .i64 1, .int .i64 0, .int .i64 1, .int .u64 7, .int .i64 11, .int .i64 0, .int .i64 0, .int .u64 0] 4 none] 1 none, .int .i64 0, .nils, .int .i64 0, .nils, .sl 1 0 1 1 false 5, .sl 21 0 1 1 false 2, .int .i64 0, .int .i64 0, .int .i64 0, .int .i64 2, .nilf, .fn 35 [] [], .fn 37 [] [], .fn 38 [] [], .fn 40 [] [], .fn 41 [] [], .fn 42 [] [], .fn 45 [] [], .fn 46 [] [], .fn 47 [] [], .fn 48 [] [], .fn 49 [] [], .fn 50 [] [], .fn 51 [] [], .fn 52 [] [], .fn 53 [] [], .fn 54 [] [], .fn 55 [] []] 74,
    .cells [.int .i64 0, .int .i64 2, .nils, .sl 11 0 0 1 false 2, .nils] 85,
    .cells [.int .i64 0, .int .i64 0, .int .i64 0] 38,
    .cells [.ptr 0 0] 28,
    .cells [.ptr 1 0] 97,
    .cells [.int .i64 0] 3,
    .cells [.int .i64 0] 3,
    .cells [.int .i64 1, .int .i64 0, .int .i64 1, .int .u64 5] 66,
    .cells [.int .i64 1, .int .i64 0, .int .i64 1, .int .u64 5] 66,
    .cells [.int .i64 1, .int .u64 5] 57,
    .cells [.int .i64 1, .int .u64 5] 57,
    .cells [.int .i64 1, .int .u64 5] 57,
    .cells [.ptr 0 0] 28,
    .cells [.ptr 1 0] 97,
    .cells [.int .i64 1] 3,
    .cells [.int .i64 1] 3,
    .cells [.int .i64 12, .int .i64 0, .int .i64 0, .int .u64 0] 66,
    .cells [.int .i64 12, .int .i64 0, .int .i64 0, .int .u64 0] 66,
    .cells [.int .i64 1, .int .u64 5] 57,
    .cells [.int .i64 1, .int .u64 5] 57,
    .cells [.int .i64 1, .int .u64 5] 57,
    .cells [.int .i64 1, .int .u64 5] 57]
def H3 : Heap :=
  [.cells [.nils, .vsl [.nils, .int .i64 1, .nils, .vsl [.int .i64 1, .int .i64 0, .int .i64 1, .int .u64 5, .int .i64 12, .int .i64 0, .int .i64 0, .int .u64 0, .int .i64 1, .int .i64 0, .int .i64 1, .int .u64 7, .int .i64 11, .int .i64 0, .int .i64 0, .int .u64 0] 4 none] 1 none, .int .i64 0, .nils, .int .i64 0, .nils, .sl 1 0 1 1 false 5, .sl 21 0 1 1 false 2, .int .i64 0, .int .i64 0, .int .i64 0, .int .i64 3, .nilf, .fn 35 [] [], .fn 37 [] [], .fn 38 [] [], .fn 40 [] [], .fn 41 [] [], .fn 42 [] [], .fn 45 [] [], .fn 46 [] [], .fn 47 [] [], .fn 48 [] [], .fn 49 [] [], .fn 50 [] [], .fn 51 [] [], .fn 52 [] [], .fn 53 [] [], .fn 54 [] [], .fn 55 [] []] 74,
    .cells [.int .i64 0, .int .i64 3, .nils, .sl 11 0 1 1 false 2, .nils] 85,
    .cells [.int .i64 0, .int .i64 0, .int .i64 0] 38,
    .cells [.ptr 0 0] 28,
    .cells [.ptr 1 0] 97,
    .cells [.int .i64 0] 3,
    .cells [.int .i64 0] 3,
    .cells [.int .i64 1, .int .i64 0, .int .i64 1, .int .u64 5] 66,
    .cells [.int .i64 1, .int .i64 0, .int .i64 1, .int .u64 5] 66,
    .cells [.int .i64 1, .int .u64 5] 57,
    .cells [.int .i64 1, .int .u64 5] 57,
    .cells [.int .i64 1, .int .u64 7] 57,
    .cells [.ptr 0 0] 28,
    .cells [.ptr 1 0] 97,
    .cells [.int .i64 1] 3,
    .cells [.int .i64 1] 3,
    .cells [.int .i64 12, .int .i64 0, .int .i64 0, .int .u64 0] 66,
    .cells [.int .i64 12, .int .i64 0, .int .i64 0, .int .u64 0] 66,
    .cells [.int .i64 1, .int .u64 5] 57,
    .cells [.int .i64 1, .int .u64 5] 57,
    .cells [.int .i64 1, .int .u64 5] 57,
    .cells [.int .i64 1, .int .u64 5] 57,
    .cells [.ptr 0 0] 28,
    .cells [.ptr 1 0] 97,
    .cells [.int .i64 2] 3,
    .cells [.int .i64 0] 3,
    .cells [.int .i64 1, .int .i64 0, .int .i64 1, .int .u64 7] 66,
    .cells [.int .i64 1, .int .i64 0, .int .i64 1, .int .u64 7] 66,
    .cells [.int .i64 1, .int .u64 7] 57,
    .cells [.int .i64 1, .int .u64 7] 57]
def H4 : Heap :=
  [.cells [.nils, .vsl [.nils, .int .i64 1, .nils, .vsl [.int .i64 1, .int .i64 0, .int .i64 1, .int .u64 5, .int .i64 12, .int .i64 0, .int .i64 0, .int .u64 0, .int .i64 1, .int .i64 0, .int .i64 1, .int .u64 7, .int .i64 11, .int .i64 0, .int .i64 0, .int .u64 0] 4 none] 1 none, .int .i64 0, .nils, .int .i64 0, .nils, .nils, .sl 21 0 1 1 false 2, .int .i64 1, .int .i64 0, .int .i64 7, .int .i64 4, .nilf, .fn 35 [] [], .fn 37 [] [], .fn 38 [] [], .fn 40 [] [], .fn 41 [] [], .fn 42 [] [], .fn 45 [] [], .fn 46 [] [], .fn 47 [] [], .fn 48 [] [], .fn 49 [] [], .fn 50 [] [], .fn 51 [] [], .fn 52 [] [], .fn 53 [] [], .fn 54 [] [], .fn 55 [] []] 74,
    .cells [.int .i64 0, .int .i64 4, .nils, .sl 11 0 0 1 false 2, .nils] 85,
    .cells [.int .i64 0, .int .i64 0, .int .i64 0] 38,
    .cells [.ptr 0 0] 28,
    .cells [.ptr 1 0] 97,
    .cells [.int .i64 0] 3,
    .cells [.int .i64 0] 3,
    .cells [.int .i64 1, .int .i64 0, .int .i64 1, .int .u64 5] 66,
    .cells [.int .i64 1, .int .i64 0, .int .i64 1, .int .u64 5] 66,
    .cells [.int .i64 1, .int .u64 5] 57,
    .cells [.int .i64 1, .int .u64 5] 57,
    .cells [.int .i64 1, .int .u64 7] 57,
    .cells [.ptr 0 0] 28,
    .cells [.ptr 1 0] 97,
    .cells [.int .i64 1] 3,
    .cells [.int .i64 1] 3,
    .cells [.int .i64 12, .int .i64 0, .int .i64 0, .int .u64 0] 66,
    .cells [.int .i64 12, .int .i64 0, .int .i64 0, .int .u64 0] 66,
    .cells [.int .i64 1, .int .u64 5] 57,
    .cells [.int .i64 1, .int .u64 5] 57,
    .cells [.int .i64 1, .int .u64 5] 57,
    .cells [.int .i64 1, .int .u64 5] 57,
    .cells [.ptr 0 0] 28,
    .cells [.ptr 1 0] 97,
    .cells [.int .i64 2] 3,
    .cells [.int .i64 0] 3,
    .cells [.int .i64 1, .int .i64 0, .int .i64 1, .int .u64 7] 66,
    .cells [.int .i64 1, .int .i64 0, .int .i64 1, .int .u64 7] 66,
    .cells [.int .i64 1, .int .u64 7] 57,
    .cells [.int .i64 1, .int .u64 7] 57,
    .cells [.ptr 0 0] 28,
    .cells [.ptr 1 0] 97,
    .cells [.int .i64 3] 3,
    .cells [.int .i64 1] 3,
    .cells [.int .i64 11, .int .i64 0, .int .i64 0, .int .u64 0] 66,
    .cells [.int .i64 11, .int .i64 0, .int .i64 0, .int .u64 0] 66,
    .cells [.int .i64 1, .int .u64 7] 57,
    .cells [.int .i64 1, .int .u64 7] 57]
def HE : Heap :=
  [.cells [.nils, .vsl [.nils, .int .i64 1, .nils, .vsl [.int .i64 1, .int .i64 0, .int .i64 1, .int .u64 5, .int .i64 12, .int .i64 0, .int .i64 0, .int .u64 0, .int .i64 1, .int .i64 0, .int .i64 1, .int .u64 7, .int .i64 11, .int .i64 0, .int .i64 0, .int .u64 0] 4 none] 1 none, .int .i64 0, .nils, .int .i64 0, .nils, .nils, .sl 21 0 1 1 false 2, .int .i64 1, .int .i64 0, .int .i64 7, .int .i64 4, .nilf, .fn 35 [] [], .fn 37 [] [], .fn 38 [] [], .fn 40 [] [], .fn 41 [] [], .fn 42 [] [], .fn 45 [] [], .fn 46 [] [], .fn 47 [] [], .fn 48 [] [], .fn 49 [] [], .fn 50 [] [], .fn 51 [] [], .fn 52 [] [], .fn 53 [] [], .fn 54 [] [], .fn 55 [] []] 74,
    .cells [.int .i64 0, .int .i64 4, .nils, .sl 11 0 0 1 false 2, .nils] 85,
    .cells [.int .i64 1, .int .i64 0, .int .i64 7] 38,
    .cells [.ptr 0 0] 28,
    .cells [.ptr 1 0] 97,
    .cells [.int .i64 0] 3,
    .cells [.int .i64 0] 3,
    .cells [.int .i64 1, .int .i64 0, .int .i64 1, .int .u64 5] 66,
    .cells [.int .i64 1, .int .i64 0, .int .i64 1, .int .u64 5] 66,
    .cells [.int .i64 1, .int .u64 5] 57,
    .cells [.int .i64 1, .int .u64 5] 57,
    .cells [.int .i64 1, .int .u64 7] 57,
    .cells [.ptr 0 0] 28,
    .cells [.ptr 1 0] 97,
    .cells [.int .i64 1] 3,
    .cells [.int .i64 1] 3,
    .cells [.int .i64 12, .int .i64 0, .int .i64 0, .int .u64 0] 66,
    .cells [.int .i64 12, .int .i64 0, .int .i64 0, .int .u64 0] 66,
    .cells [.int .i64 1, .int .u64 5] 57,
    .cells [.int .i64 1, .int .u64 5] 57,
    .cells [.int .i64 1, .int .u64 5] 57,
    .cells [.int .i64 1, .int .u64 5] 57,
    .cells [.ptr 0 0] 28,
    .cells [.ptr 1 0] 97,
    .cells [.int .i64 2] 3,
    .cells [.int .i64 0] 3,
    .cells [.int .i64 1, .int .i64 0, .int .i64 1, .int .u64 7] 66,
    .cells [.int .i64 1, .int .i64 0, .int .i64 1, .int .u64 7] 66,
    .cells [.int .i64 1, .int .u64 7] 57,
    .cells [.int .i64 1, .int .u64 7] 57,
    .cells [.ptr 0 0] 28,
    .cells [.ptr 1 0] 97,
    .cells [.int .i64 3] 3,
    .cells [.int .i64 1] 3,
    .cells [.int .i64 11, .int .i64 0, .int .i64 0, .int .u64 0] 66,
    .cells [.int .i64 11, .int .i64 0, .int .i64 0, .int .u64 0] 66,
    .cells [.int .i64 1, .int .u64 7] 57,
    .cells [.int .i64 1, .int .u64 7] 57,
    .dead,
    .cells [.int .i64 1, .int .u64 5] 57]
theorem runErr (n : Int) (h : n < 0 ∨ n > 65536) : OrcAt Tryz.prog 9 [.ptr 0 0, .int .i64 n] K1 (.tup [.nils, .agg [.int .i64 0, .int .i64 0, .int .i64 0], .int .i64 1]) H0 0 := by
  refine OrcAt.of_body Tryz.func9 rfl rfl (Nat.zero_le _) (fun _ h => by omega) (by decide) ?_
  refine .lower (lw := 0) (Nat.zero_le _) ?_
  refine .seq (.go E0_ok (noOrc_ok _) mix0 58 [] [(0, .ptr 0 0), (1, .int .i64 n), (5, .ptr 2 0)] H0 0 trivial (by kernel_rfl) ?_)
  refine .seq (.seq (.go E0_ok (noOrc_ok _) mix0 58 [] [(0, .ptr 0 0), (1, .int .i64 n), (5, .ptr 2 0), (9, .bool false)] H0 0 trivial (by kernel_rfl) ?_))
  refine .cond (b := false) rfl (.skip ?_)
  by_cases h0 : n < 0
  · refine .seq (.seq (.go E0_ok (noOrc_ok _) mix0 58 [(1, hBin 3 (.int .i64 n) (.int .i64 0) (.bool true))] [(0, .ptr 0 0), (1, .int .i64 n), (5, .ptr 2 0), (16, .bool true)] H0 0 ⟨good_bin (icLss (decide_eq_true h0)), trivial⟩ (by kernel_rfl) ?_))
    refine .cond (b := true) rfl (.seq (.go E0_ok (noOrc_ok _) mix0 58 [] [(4, .nils), (5, .ptr 2 0), (6, .int .i64 1)] H0 0 trivial (by kernel_rfl) ?_))
    exact .ret ⟨.inr rfl, Nat.zero_le _, rfl, [.nils, .agg [.int .i64 0, .int .i64 0, .int .i64 0], .int .i64 1], by kernel_rfl, rfl⟩
  · have h1 : n > 65536 := by omega
    refine .seq (.seq (.go E0_ok (noOrc_ok _) mix0 58 [(1, hBin 3 (.int .i64 n) (.int .i64 0) (.bool false)), (4, hBin 3 (.int .i64 n) (.int .i64 65536) (.bool true))] [(0, .ptr 0 0), (1, .int .i64 n), (5, .ptr 2 0), (16, .bool true)] H0 0 ⟨good_bin (icLss (decide_eq_false h0)), good_bin (icGtr (decide_eq_true h1)), trivial⟩ (by kernel_rfl) ?_))
    refine .cond (b := true) rfl (.seq (.go E0_ok (noOrc_ok _) mix0 58 [] [(4, .nils), (5, .ptr 2 0), (6, .int .i64 1)] H0 0 trivial (by kernel_rfl) ?_))
    exact .ret ⟨.inr rfl, Nat.zero_le _, rfl, [.nils, .agg [.int .i64 0, .int .i64 0, .int .i64 0], .int .i64 1], by kernel_rfl, rfl⟩
theorem runAll (n : Int) (h1 : 4 ≤ n) (h2 : n ≤ 65536) : OrcAt Tryz.prog 9 [.ptr 0 0, .int .i64 n] K1 (.tup [.sl 39 0 1 1 false 2, .agg [.int .i64 1, .int .i64 0, .int .i64 7], .int .i64 0]) HE 0 := by
  refine OrcAt.of_body Tryz.func9 rfl rfl (Nat.zero_le _) (fun _ h => by omega) (by decide) ?_
  refine .lower (lw := 0) (Nat.zero_le _) ?_
  refine .seq (.go E0_ok (noOrc_ok _) mix0 58 [] [(0, .ptr 0 0), (1, .int .i64 n), (5, .ptr 2 0)] H0 0 trivial (by kernel_rfl) ?_)
  refine .seq (.seq (.go E0_ok (noOrc_ok _) mix0 58 [] [(0, .ptr 0 0), (1, .int .i64 n), (5, .ptr 2 0), (9, .bool false)] H0 0 trivial (by kernel_rfl) ?_))
  refine .cond (b := false) rfl (.skip ?_)
  refine .seq (.seq (.go E0_ok (noOrc_ok _) mix0 58 [(1, hBin 3 (.int .i64 n) (.int .i64 0) (.bool false)), (4, hBin 3 (.int .i64 n) (.int .i64 65536) (.bool false))] [(0, .ptr 0 0), (1, .int .i64 n), (5, .ptr 2 0), (16, .bool false)] H0 0 ⟨good_bin (icLss (decide_eq_false (by omega))), good_bin (icGtr (decide_eq_false (by omega))), trivial⟩ (by kernel_rfl) ?_))
  refine .cond (b := false) rfl (.skip ?_)
  refine .seq (.go E0_ok (noOrc_ok _) mix0 58 [] [(0, .ptr 0 0), (1, .int .i64 n), (5, .ptr 2 0), (7, .int .i64 0)] H0 0 trivial (by kernel_rfl) ?_)
  refine .seq (.blk (.loopU 5 ?_))
  refine RoundsB.mk ?_
  refine .seq (.seq (.go E0_ok (noOrc_ok _) mix0 58 [(1, hBin 3 (.int .i64 n) (.int .i64 0) (.bool true))] [(0, .ptr 0 0), (1, .int .i64 n), (5, .ptr 2 0), (7, .int .i64 0), (35, .bool true)] H0 0 ⟨good_bin (icGtr (decide_eq_true (by omega))), trivial⟩ (by kernel_rfl) ?_))
  refine .cond (b := true) rfl (.skip ?_)
  refine .seq (.runN E0_ok G_ok mix0 1000 (by kernel_rfl) ?_)
  refine .go E0_ok (noOrc_ok _) mix0 58 [(1, hBin 12 (.int .i64 n) (.int .i64 1) (.int .i64 (n - 1)))] [(0, .ptr 0 0), (1, .int .i64 (n - 1)), (5, .ptr 2 0), (7, .int .i64 0)] H1 0 ⟨good_bin (subI (n := n) (by omega) (by omega) (by omega)), trivial⟩ (by kernel_rfl) ?_
  refine RoundsB.mk ?_
  refine .seq (.seq (.go E0_ok (noOrc_ok _) mix0 58 [(1, hBin 12 (.int .i64 (n - 1)) (.int .i64 0) (.bool true))] [(0, .ptr 0 0), (1, .int .i64 (n - 1)), (5, .ptr 2 0), (7, .int .i64 0), (35, .bool true)] H1 0 ⟨good_bin (icGtr (decide_eq_true (by omega))), trivial⟩ (by kernel_rfl) ?_))
  refine .cond (b := true) rfl (.skip ?_)
  refine .seq (.runN E0_ok G_ok mix0 1000 (by kernel_rfl) ?_)
  refine .go E0_ok (noOrc_ok _) mix0 58 [(1, hBin 22 (.int .i64 (n - 1)) (.int .i64 1) (.int .i64 (n - 2)))] [(0, .ptr 0 0), (1, .int .i64 (n - 2)), (5, .ptr 2 0), (7, .int .i64 0)] H2 0 ⟨good_bin (subI (n := n) (by omega) (by omega) (by omega)), trivial⟩ (by kernel_rfl) ?_
  refine RoundsB.mk ?_
  refine .seq (.seq (.go E0_ok (noOrc_ok _) mix0 58 [(1, hBin 22 (.int .i64 (n - 2)) (.int .i64 0) (.bool true))] [(0, .ptr 0 0), (1, .int .i64 (n - 2)), (5, .ptr 2 0), (7, .int .i64 0), (35, .bool true)] H2 0 ⟨good_bin (icGtr (decide_eq_true (by omega))), trivial⟩ (by kernel_rfl) ?_))
  refine .cond (b := true) rfl (.skip ?_)
  refine .seq (.runN E0_ok G_ok mix0 1000 (by kernel_rfl) ?_)
  refine .go E0_ok (noOrc_ok _) mix0 58 [(1, hBin 30 (.int .i64 (n - 2)) (.int .i64 1) (.int .i64 (n - 3)))] [(0, .ptr 0 0), (1, .int .i64 (n - 3)), (5, .ptr 2 0), (7, .int .i64 0)] H3 0 ⟨good_bin (subI (n := n) (by omega) (by omega) (by omega)), trivial⟩ (by kernel_rfl) ?_
  refine RoundsB.mk ?_
  refine .seq (.seq (.go E0_ok (noOrc_ok _) mix0 58 [(1, hBin 30 (.int .i64 (n - 3)) (.int .i64 0) (.bool true))] [(0, .ptr 0 0), (1, .int .i64 (n - 3)), (5, .ptr 2 0), (7, .int .i64 0), (35, .bool true)] H3 0 ⟨good_bin (icGtr (decide_eq_true (by omega))), trivial⟩ (by kernel_rfl) ?_))
  refine .cond (b := true) rfl (.skip ?_)
  refine .seq (.runN E0_ok G_ok mix0 1000 (by kernel_rfl) ?_)
  refine .go E0_ok (noOrc_ok _) mix0 58 [(1, hBin 38 (.int .i64 (n - 3)) (.int .i64 1) (.int .i64 (n - 4)))] [(0, .ptr 0 0), (1, .int .i64 (n - 4)), (5, .ptr 2 0), (7, .int .i64 0)] H4 0 ⟨good_bin (subI (n := n) (by omega) (by omega) (by omega)), trivial⟩ (by kernel_rfl) ?_
  refine RoundsB.mk ?_
  by_cases h5 : n - 4 > 0
  · refine .seq (.seq (.go E0_ok (noOrc_ok _) mix0 58 [(1, hBin 38 (.int .i64 (n - 4)) (.int .i64 0) (.bool true))] [(0, .ptr 0 0), (1, .int .i64 (n - 4)), (5, .ptr 2 0), (7, .int .i64 0), (35, .bool false)] H4 0 ⟨good_bin (icGtr (decide_eq_true h5)), trivial⟩ (by kernel_rfl) ?_))
    refine .cond (b := false) rfl (.exit ⟨fun _ => ?_, fun h => absurd rfl h⟩)
    refine .seq (.go E0_ok G_ok mix0 58 [] [(4, .sl 39 0 1 1 false 2), (5, .ptr 2 0), (6, .int .i64 0)] HE 0 trivial (by kernel_rfl) ?_)
    exact .ret ⟨.inr rfl, Nat.zero_le _, rfl, [.sl 39 0 1 1 false 2, .agg [.int .i64 1, .int .i64 0, .int .i64 7], .int .i64 0], by kernel_rfl, rfl⟩
  · refine .seq (.seq (.go E0_ok (noOrc_ok _) mix0 58 [(1, hBin 38 (.int .i64 (n - 4)) (.int .i64 0) (.bool false))] [(0, .ptr 0 0), (1, .int .i64 (n - 4)), (5, .ptr 2 0), (7, .int .i64 0), (35, .bool false)] H4 0 ⟨good_bin (icGtr (decide_eq_false h5)), trivial⟩ (by kernel_rfl) ?_))
    refine .cond (b := false) rfl (.exit ⟨fun _ => ?_, fun h => absurd rfl h⟩)
    refine .seq (.go E0_ok G_ok mix0 58 [] [(4, .sl 39 0 1 1 false 2), (5, .ptr 2 0), (6, .int .i64 0)] HE 0 trivial (by kernel_rfl) ?_)
    exact .ret ⟨.inr rfl, Nat.zero_le _, rfl, [.sl 39 0 1 1 false 2, .agg [.int .i64 1, .int .i64 0, .int .i64 7], .int .i64 0], by kernel_rfl, rfl⟩
/-- What the law does ahead of the run. -/
theorem nilsHead (n : Int) {R : Ex → St → Prop} (h : ∀ c : Code, (∃ a1 a2 a3 a4 a5 a6 : Code, Tryz.f5.body = some (.seq a1 (.seq a2 (.seq a3 (.seq a4 (.seq a5 (.seq a6 c)))))) ) → CodeB Tryz.prog [] c ⟨sp 88 [(0, .int .i64 n), (7, .ptr 0 0)], K1, 0⟩ R) : ∀ c, Tryz.f5.body = some c → CodeB Tryz.prog [] c ⟨envOf Tryz.f5 [.int .i64 n], [], 0⟩ R := by
  intro c hc
  cases hc
  refine .seq (.runN E0_ok G_ok mix0 1000 (by kernel_rfl) ?_)
  refine .seq (.runN E0_ok G_ok mix0 1000 (by kernel_rfl) ?_)
  refine .seq (.runN E0_ok G_ok mix0 1000 (by kernel_rfl) ?_)
  refine .seq (.runN E0_ok G_ok mix0 1000 (by kernel_rfl) ?_)
  refine .pln (Pln.chkI [] 40 (k := 88) (t := 0) (kd := .i64) (i := n) (l := []) (K := []) (lw := 0) (by kernel_rfl) (by kernel_rfl)) ?_
  refine .seq (.runN E0_ok G_ok mix0 1000 (by kernel_rfl) ?_)
  refine .seq (.runN E0_ok G_ok mix0 1000 (by kernel_rfl) ?_)
  refine .pln (Pln.chkI [127, 130] 40 (k := 88) (t := 0) (kd := .i64) (i := n) (l := [(7, .ptr 0 0)]) (K := K1) (lw := 0) (by kernel_rfl) (by kernel_rfl)) ?_
  exact h _ ⟨_, _, _, _, _, _, rfl⟩
theorem nilsNeg (n : Int) (h : n < 0) : OrcAt Tryz.prog 5 [.int .i64 n] [] (.bool true) [] 0 := by
  refine OrcAt.of_body0 Tryz.func5 rfl rfl ?_
  refine nilsHead n ?_ _ rfl
  rintro c ⟨a1, a2, a3, a4, a5, a6, hc⟩
  cases hc
  refine .seq (.go E0_ok (oneOrc_ok (runErr n (.inl h))) mix0 88 [(2, hCallH 9 [.ptr 0 0, .int .i64 n] K1 (.tup [.nils, .agg [.int .i64 0, .int .i64 0, .int .i64 0], .int .i64 1]) H0 0)] [(0, .int .i64 n), (11, .int .i64 1)] (H0 ++ [.cells [.int .i64 0, .int .i64 0, .int .i64 0] 38]) 0 ⟨good_callH rfl rfl, trivial⟩ (by kernel_rfl) ?_)
  refine .seq (.go E0_ok (pureOrc_ok alive_ok .nil .bool) mix0 88 [(3, hBin 4 (.int .i64 n) (.int .i64 0) (.bool true)), (10, hCall 4 8 [] (.bool true))] [(2, .bool true)] (H0 ++ [.cells [.int .i64 0, .int .i64 0, .int .i64 0] 38]) 0 ⟨good_bin (icLss (decide_eq_true h)), good_call rfl rfl, trivial⟩ (by kernel_rfl) ?_)
  exact .ret ⟨.inr rfl, [.bool true], by kernel_rfl, .bool _⟩
theorem nilsBig (n : Int) (h0 : ¬ n < 0) (h : n > 65536) : OrcAt Tryz.prog 5 [.int .i64 n] [] (.bool true) [] 0 := by
  refine OrcAt.of_body0 Tryz.func5 rfl rfl ?_
  refine nilsHead n ?_ _ rfl
  rintro c ⟨a1, a2, a3, a4, a5, a6, hc⟩
  cases hc
  refine .seq (.go E0_ok (oneOrc_ok (runErr n (.inr h))) mix0 88 [(2, hCallH 9 [.ptr 0 0, .int .i64 n] K1 (.tup [.nils, .agg [.int .i64 0, .int .i64 0, .int .i64 0], .int .i64 1]) H0 0)] [(0, .int .i64 n), (11, .int .i64 1)] (H0 ++ [.cells [.int .i64 0, .int .i64 0, .int .i64 0] 38]) 0 ⟨good_callH rfl rfl, trivial⟩ (by kernel_rfl) ?_)
  refine .seq (.go E0_ok (pureOrc_ok alive_ok .nil .bool) mix0 88 [(3, hBin 4 (.int .i64 n) (.int .i64 0) (.bool false)), (6, hBin 4 (.int .i64 n) (.int .i64 65536) (.bool true)), (10, hCall 4 8 [] (.bool true))] [(2, .bool true)] (H0 ++ [.cells [.int .i64 0, .int .i64 0, .int .i64 0] 38]) 0 ⟨good_bin (icLss (decide_eq_false h0)), good_bin (icGtr (decide_eq_true h)), good_call rfl rfl, trivial⟩ (by kernel_rfl) ?_)
  exact .ret ⟨.inr rfl, [.bool true], by kernel_rfl, .bool _⟩
theorem nilsAll (n : Int) (h1 : 4 ≤ n) (h2 : n ≤ 65536) : OrcAt Tryz.prog 5 [.int .i64 n] [] (.bool true) [] 0 := by
  refine OrcAt.of_body0 Tryz.func5 rfl rfl ?_
  refine nilsHead n ?_ _ rfl
  rintro c ⟨a1, a2, a3, a4, a5, a6, hc⟩
  cases hc
  refine .seq (.go E0_ok (oneOrc_ok (runAll n h1 h2)) mix0 88 [(2, hCallH 9 [.ptr 0 0, .int .i64 n] K1 (.tup [.sl 39 0 1 1 false 2, .agg [.int .i64 1, .int .i64 0, .int .i64 7], .int .i64 0]) HE 0)] [(0, .int .i64 n), (11, .int .i64 0)] (HE ++ [.cells [.int .i64 1, .int .i64 0, .int .i64 7] 38]) 0 ⟨good_callH rfl rfl, trivial⟩ (by kernel_rfl) ?_)
  refine .seq (.go E0_ok (pureOrc_ok alive_ok .nil .bool) mix0 88 [(3, hBin 41 (.int .i64 n) (.int .i64 0) (.bool false)), (6, hBin 41 (.int .i64 n) (.int .i64 65536) (.bool false)), (10, hCall 41 8 [] (.bool true))] [(2, .bool true)] (HE ++ [.cells [.int .i64 1, .int .i64 0, .int .i64 7] 38]) 0 ⟨good_bin (icLss (decide_eq_false (by omega))), good_bin (icGtr (decide_eq_false (by omega))), good_call rfl rfl, trivial⟩ (by kernel_rfl) ?_)
  exact .ret ⟨.inr rfl, [.bool true], by kernel_rfl, .bool _⟩
theorem VmNils_ok (n : Int) : OrcAt Tryz.prog 5 [.int .i64 n] [] (.bool true) [] 0 := by
  by_cases h0 : n < 0
  · exact nilsNeg n h0
  by_cases h1 : n > 65536
  · exact nilsBig n h0 h1
  by_cases h2 : 4 ≤ n
  · exact nilsAll n h2 (by omega)
  have h3 : n = 0 ∨ n = 1 ∨ n = 2 ∨ n = 3 := by omega
  rcases h3 with rfl | rfl | rfl | rfl
  · exact nils0
  · exact nils1
  · exact nils2
  · exact nils3
end Go.Proofs.YtgcdpdkccaabcaaGreat.Vm
