/- The given machine, known whole. Conditions: none (definitions and lemmas). -/
import Derived.Test.YtgcdpdkccaabcaaGreatEvZ
import Derived.Test.YtgcdpdkccaabcaaGreatProg
import Derived.KernelRfl
namespace Go.Proofs.YtgcdpdkccaabcaaGreat.Vm
open Go Go.Proofs Go.Proofs.YtgcdpdkccaabcaaGreat.Ev
set_option maxRecDepth 100000
set_option linter.unusedVariables false
set_option linter.unusedSimpArgs false
def E0 : Eqs := [(57, [.int, .int]), (66, [.int, .int, .int, .int]), (38, [.int, .int, .int])]
theorem E0_ok : EqsOk Tryz.prog E0 := eqsOk_of (by kernel_rfl)
theorem mix0 : Tryz.prog.follows .mixedOrders = true := by kernel_rfl
noncomputable def G : Orc := evG Tryz.prog E0 1000 noOrc 40
theorem G_ok : OrcOk Tryz.prog G := evG_ok E0_ok mix0 (noOrc_ok _) 40
def isT (x : Option (AV × Heap × Nat)) : Bool := match x with | some (.bool b, _, _) => b | _ => false
theorem isT_some {x : Option (AV × Heap × Nat)} (h : isT x = true) : ∃ q, x = some (.bool true, q) := by
  unfold isT at h
  split at h
  · rename_i b hp lw; subst h; exact ⟨_, rfl⟩
  · cases h
theorem alive_ok : OrcAt Tryz.prog 8 [] [] (.bool true) [] 0 := by
  obtain ⟨q, e⟩ := isT_some (x := G 8 [] []) (by kernel_rfl)
  exact (G_ok 8 [] [] _ _ _ e).plain0 (.bool _)
/-- What is known of one call. -/
def B0 : Orc := fun f args h => if f = 8 ∧ args.length = 0 then some (.bool true, h, h.length) else none
theorem B0_ok : OrcOk Tryz.prog B0 := by
  intro f args h r h' lw e
  unfold B0 at e
  split at e
  · rename_i hc
    cases e
    obtain ⟨rfl, hl⟩ := hc
    obtain rfl := List.length_eq_zero_iff.1 hl
    exact alive_ok.lift .nil .bool _
  · cases e
noncomputable def G1 : Orc := evG Tryz.prog E0 1000 B0 40
theorem G1_ok : OrcOk Tryz.prog G1 := evG_ok E0_ok mix0 B0_ok 40
theorem nils_at (k : Int) (h : isT (G1 5 [.int .i64 k] []) = true) : OrcAt Tryz.prog 5 [.int .i64 k] [] (.bool true) [] 0 := by
  obtain ⟨q, e⟩ := isT_some h
  exact (G1_ok 5 [.int .i64 k] [] _ _ _ e).plain0 (.bool _)
theorem nils0 : OrcAt Tryz.prog 5 [.int .i64 0] [] (.bool true) [] 0 := nils_at 0 (by kernel_rfl)
theorem nils1 : OrcAt Tryz.prog 5 [.int .i64 1] [] (.bool true) [] 0 := nils_at 1 (by kernel_rfl)
theorem nils2 : OrcAt Tryz.prog 5 [.int .i64 2] [] (.bool true) [] 0 := nils_at 2 (by kernel_rfl)
theorem nils3 : OrcAt Tryz.prog 5 [.int .i64 3] [] (.bool true) [] 0 := nils_at 3 (by kernel_rfl)
end Go.Proofs.YtgcdpdkccaabcaaGreat.Vm
