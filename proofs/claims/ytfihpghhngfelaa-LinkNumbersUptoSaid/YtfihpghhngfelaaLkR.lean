/- slices.Clone at objects, link.ordered. Conditions: none (definitions and lemmas). -/
import Derived.Test.YtfihpghhngfelaaLkN
namespace Go.Proofs.Ytfihpghhngfelaa.Lk
open Go Go.Proofs Go.Proofs.Ytfihpghhngfelaa.Ev
set_option maxRecDepth 100000
set_option linter.unusedVariables false
set_option linter.unusedSimpArgs false
theorem clone_ok (l : List DObj) (hl : l.length ≤ Lim) : OrcAt Try.prog 36 [.vsl (encL encObj l) l.length none] [] (dS l.length) (dB l) 0 := by
  refine OrcAt.of_bodyG Try.func36 rfl rfl (Nat.zero_le _) (fun _ h => by omega) (Nat.zero_le _) ?_
  refine .seq (gw 8 [] [(0, .vsl (encL encObj l) l.length none)] [] trivial (by kernel_rfl) ?_)
  refine .seq (.seq (gw 8 [] [(0, .vsl (encL encObj l) l.length none), (4, .bool false)] [] trivial (by kernel_rfl) ?_))
  refine .cond (b := false) rfl (.skip ?_)
  refine .seq (gw 8 [(2, hApp 1 0 0 4 true [] 43 (.vsl (encL encObj l) l.length none) (encL encObj l) l.length [] [])] [(2, .sl 1 0 (0 + l.length) (0 + l.length) false 4)] [.dead, .cells (encL encObj l) 43]
    ⟨good_app T25 rfl rfl rfl rfl rfl (fun h _ => kObj.src (some l)) (.inr rfl) rfl (kObj.leafs _) (room0 hl (by omega)), trivial⟩ (by kernel_rfl) ?_)
  refine .ret ⟨.inr rfl, Nat.zero_le _, [.sl 1 0 (0 + l.length) (0 + l.length) false 4], [1], by kernel_rfl, ⟨rfl, by decide, Nat.zero_le _, fun _ h => by simp at h, fun _ h => by simp at h, fun j id h => ?_⟩, ?_⟩
  · rcases j with _ | j
    · simp at h; subst h
      exact ⟨Nat.zero_le _, .inl ⟨_, _, rfl, rfl, .same (kObj.cls _)⟩⟩
    · simp at h
  · have e1 : 0 + l.length = l.length := Nat.zero_add _
    rw [e1]
    exact .slKeep (n := 0) (j := 0) rfl (Nat.le_refl _) (Nat.le_refl _) (fun e => by simp at e)
theorem ordered_some (l : List DObj) (hl : l.length ≤ Lim) : OrcAt Try.prog 18 [.vsl (encL encObj l) l.length none] [] (.vsl (encL encObj (st oLt l)) (st oLt l).length none) [] 0 := by
  refine OrcAt.of_body0 Try.func18 rfl rfl ?_
  refine .seq (gw 9 [] [(0, .vsl (encL encObj l) l.length none)] [] trivial (by kernel_rfl) ?_)
  refine .seq (.go E0_ok (oneOrc_ok (clone_ok l hl)) mix0 9 [(1, hCallH 36 [.vsl (encL encObj l) l.length none] [] (dS l.length) (dB l) 0)] [(3, dS l.length)] (dB l) 0 ⟨good_callH rfl rfl, trivial⟩ (by kernel_rfl) ?_)
  refine .seq (.go E0_ok (oneOrc_ok (sortS_ok l l.length rfl hl)) mix0 9 [(1, hCallH 37 [dS l.length, cF] (dB l) (.tup []) (dB (st oLt l)) 0)] [(3, dS l.length)] (dB (st oLt l)) 0 ⟨good_callH rfl rfl, trivial⟩ (by kernel_rfl) ?_)
  refine .seq (gw 9 [] [(2, dS l.length)] (dB (st oLt l)) trivial (by kernel_rfl) ?_)
  refine .ret ⟨.inr rfl, [dS l.length], by kernel_rfl, ?_⟩
  rw [st_length]
  exact .slAll (Nat.zero_le _) (by decide) rfl (kObj.cls _).frzs
theorem ordered_ok (o : Option (List DObj)) (hl : (ls o).length ≤ Lim) : OrcAt Try.prog 18 [encS encObj o] [] (encS encObj (o.map (st oLt))) [] 0 := by
  cases o with
  | none => exact evF_ok E0_ok mix0 (noOrc_ok _) 6 18 [.nils] [] _ _ _ (show evF Try.prog E0 60 noOrc 6 18 [.nils] [] = some (.nils, [], 0) by kernel_rfl)
  | some l => exact ordered_some l hl
end Go.Proofs.Ytfihpghhngfelaa.Lk
