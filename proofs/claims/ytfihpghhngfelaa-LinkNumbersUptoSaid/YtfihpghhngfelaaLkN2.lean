/- foundrylaw18.LinkNumbers. Conditions: none (definitions and lemmas). -/
import Derived.Test.YtfihpghhngfelaaLkZ
namespace Go.Proofs.Ytfihpghhngfelaa.Lk
open Go Go.Proofs Go.Proofs.Ytfihpghhngfelaa.Ev
set_option maxRecDepth 100000
set_option linter.unusedVariables false
set_option linter.unusedSimpArgs false

theorem strGtrF {P : Program} {E : Eqs} {t : TypeId} {a b : ByteArray} (h : strLt b a = false) : binA P E .gtr t (.str a) (.str b) = some (.bool false) := by
  simp only [binA, strBin]
  have : (!(strLt a b || strEq a b)) = false := by
    cases h1 : strLt a b with
    | true => rfl
    | false =>
      have e := bl_total _ _ h h1
      simp [strEq, e]
  rw [this]
section
variable {s : Option (List DSym)} {A F : List Nm}
theorem sAt1 (hs : ls s = sK 1 A ++ sK 2 F) {i : Nat} (hi : i < A.length) : ∃ x p, (ls s)[i]? = some x ∧ x.kind = 1 ∧ x.n = (i : Int) ∧ A[i]? = some p ∧ x.mod = p.1 := by
  obtain ⟨p, hp⟩ : ∃ p, A[i]? = some p := ⟨_, List.getElem?_eq_getElem hi⟩
  refine ⟨⟨p.1, p.2, 1, i⟩, p, ?_, rfl, rfl, hp, rfl⟩
  rw [hs, List.getElem?_append_left (by rw [sK_len]; exact hi), sK_get, hp]; rfl
theorem sAt2 (hs : ls s = sK 1 A ++ sK 2 F) {i : Nat} (h1 : A.length ≤ i) (h2 : i < A.length + F.length) : ∃ x p, (ls s)[i]? = some x ∧ x.kind = 2 ∧ x.n = ((i - A.length : Nat) : Int) ∧ F[i - A.length]? = some p ∧ x.mod = p.1 := by
  obtain ⟨p, hp⟩ : ∃ p, F[i - A.length]? = some p := ⟨_, List.getElem?_eq_getElem (by omega)⟩
  refine ⟨⟨p.1, p.2, 2, ((i - A.length : Nat) : Int)⟩, p, ?_, rfl, rfl, hp, rfl⟩
  rw [hs, List.getElem?_append_right (by rw [sK_len]; exact h1), sK_len, sK_get, hp]; rfl
theorem sLen (hs : ls s = sK 1 A ++ sK 2 F) : (ls s).length = A.length + F.length := by rw [hs, List.length_append, sK_len, sK_len]
end
theorem numbers_walk (o m : Option (List DObj)) (s : Option (List DSym)) (A F : List Nm) (h9 : OrcAt Try.prog 9 [encS encObj o] [] (encS encObj m) [] 0) (h8 : OrcAt Try.prog 8 [encS encObj m] [] (encS encSym s) [] 0) (hs : ls s = sK 1 A ++ sK 2 F)
    (hlo : (ls o).length ≤ Lim) (hA : A.length = (pV (ls o)).length) (hF : F.length = (pF (ls o)).length) (hAl : A.length ≤ Lim) (hFl : F.length ≤ Lim)
    (hsA : ∀ (i : Nat) (p p' : Nm), A[i]? = some p → A[i + 1]? = some p' → strLt p'.1 p.1 = false) (hsF : ∀ (i : Nat) (p p' : Nm), F[i]? = some p → F[i + 1]? = some p' → strLt p'.1 p.1 = false) :
    OrcAt Try.prog 4 [encS encObj o] [] (.bool true) [] 0 := by
  have hLim : Lim = 1048576 := rfl
  have hsl := sLen hs
  refine OrcAt.of_body0 Try.func4 rfl rfl ?_
  refine .seq ?_
  refine gw 108 [] [(0, encS encObj o)] [] trivial (by kernel_rfl) ?_
  refine .seq ?_
  refine .seq ?_
  refine .go E0_ok (pureOrc_ok (live_ok) (.nil) .bool) mix0 108 [(0, hCall 0 11 [] (.bool true))] [(0, encS encObj o), (9, .bool false)] [] 0 ⟨good_call rfl rfl, trivial⟩ (by kernel_rfl) ?_
  refine .cond (b := false) rfl ?_
  refine .skip ?_
  refine .seq ?_
  refine .go E0_ok (orOrc_ok (pureOrc_ok (h9) (.cons (.encS imObj _) (.nil)) (.encS imObj _)) (pureOrc_ok (h8) (.cons (.encS imObj _) (.nil)) (.encS imSym _))) mix0 108 [(1, hCall 0 9 [encS encObj o] (encS encObj m)), (2, hCall 0 8 [encS encObj m] (encS encSym s))] [(0, encS encObj o), (3, encS encSym s)] [] 0 ⟨good_callO (orL (pure_self)) rfl rfl, good_callO (orR (pure_ne (by decide)) pure_self) rfl rfl, trivial⟩ (by kernel_rfl) ?_
  refine .seq ?_
  refine gw 108 [] [(0, encS encObj o), (3, encS encSym s), (4, iN 0), (5, iN 0)] [] trivial (by kernel_rfl) ?_
  refine .seq ?_
  refine .seq ?_
  refine gw 108 [] [(0, encS encObj o), (3, encS encSym s), (4, iN 0), (5, iN 0), (6, iN 0)] [] trivial (by kernel_rfl) ?_
  refine .blk ?_
  refine .loopG (fun mu sst => ∃ i v f, mu = (ls s).length - i ∧ (i ≤ (ls s).length) ∧ (v = min i A.length) ∧ (f = i - A.length) ∧ sst = ⟨sp 108 [(0, encS encObj o), (3, encS encSym s), (4, iN v), (5, iN f), (6, iN i)], [], 0⟩) ((ls s).length) ⟨⟨sp 108 [(0, encS encObj o), (3, encS encSym s), (4, iN 0), (5, iN 0), (6, iN 0)], [], 0⟩, Pln.ofT [] (by decide) rfl trivial ⟨⟨_, rfl, kObj.clS _ _ _ _⟩, ⟨_, rfl, kSym.clS _ _ _ _⟩, ⟨_, rfl, .int _ _⟩, ⟨_, rfl, .int _ _⟩, ⟨_, rfl, .int _ _⟩, trivial⟩, 0, 0, 0, rfl, Nat.zero_le _, (Nat.zero_min _).symm, (Nat.zero_sub _).symm, rfl⟩ ?_
  rintro mu sst ⟨i, v, f, rfl, hi, hv, hf, rfl⟩
  refine .seq ?_
  refine .seq ?_
  refine gw 108 [(2, hLen 0 (encS encSym s) (ls s).length), (3, hBin 0 (iN i) (iN ((ls s).length)) (.bool (decide (i < (ls s).length))))] [(0, encS encObj o), (3, encS encSym s), (4, iN v), (5, iN f), (6, iN i), (16, .bool (decide (i < (ls s).length)))] [] ⟨good_len T23.hu, good_bin (cmpLss rfl), trivial⟩ (by kernel_rfl) ?_
  by_cases hlt : i < (ls s).length
  · skip
    refine .condT hlt rfl ?_
    by_cases hia : i < A.length
    · skip
      obtain ⟨x, p, hx, hk, hn, hp, hm⟩ := sAt1 hs hia
      have hf0 : ¬ f > 0 := by omega
      by_cases hi0 : i > 0
      · skip
        obtain ⟨y, p', hy, hk', hn', hp', hm'⟩ := sAt1 hs (i := i - 1) (by omega)
        have hle := hsA (i - 1) p' p hp' (by rw [show i - 1 + 1 = i by omega]; exact hp)
        refine .skip ?_
        refine .seq ?_
        refine .blk ?_
        refine .seq ?_
        refine .seq ?_
        refine gw 108 [(2, hIdxE 0 encSym s (i) x)] [(0, encS encObj o), (3, encS encSym s), (4, iN v), (5, iN f), (6, iN i), (23, .int .i64 x.kind)] [] ⟨good_idxE T23.hu T23.hs kSym hx, trivial⟩ (by kernel_rfl) ?_
        refine .blk ?_
        refine .seq ?_
        refine gw 108 [(0, hBin 0 (.int .i64 x.kind) (iN 1) (.bool true))] [(0, encS encObj o), (3, encS encSym s), (4, iN v), (5, iN f), (6, iN i), (23, .int .i64 x.kind), (24, .bool true)] [] ⟨good_bin (icEql (by rw [hk]; rfl)), trivial⟩ (by kernel_rfl) ?_
        refine .cond (b := true) rfl ?_
        refine .seq ?_
        refine .seq ?_
        refine gw 108 [(1, hBin 0 (iN f) (iN 0) (.bool false)), (5, hIdxE 0 encSym s (i) x), (9, hBin 0 (.int .i64 x.n) (iN v) (.bool false))] [(0, encS encObj o), (3, encS encSym s), (4, iN v), (5, iN f), (6, iN i), (36, .bool false)] [] ⟨good_bin (cmpGtr (decide_eq_false hf0)), good_idxE T23.hu T23.hs kSym hx, good_bin (icNeq (by rw [hn, show v = i by omega]; simp)), trivial⟩ (by kernel_rfl) ?_
        refine .cond (b := false) rfl ?_
        refine .skip ?_
        refine gw 108 [(1, hBin 0 (iN v) (iN 1) (iN (v + 1)))] [(0, encS encObj o), (3, encS encSym s), (4, iN (v + 1)), (5, iN f), (6, iN i)] [] ⟨good_bin (addN (by omega)), trivial⟩ (by kernel_rfl) ?_
        refine .seq ?_
        refine gw 108 [(1, hBin 0 (iN i) (iN 0) (.bool true)), (5, hIdxE 0 encSym s (i) x), (10, hBin 0 (iN i) (iN 1) (iN (i - 1))), (11, hIdxE 0 encSym s (i - 1) y), (14, hBin 0 (.int .i64 x.kind) (.int .i64 y.kind) (.bool true)), (19, hBin 0 (iN i) (iN 1) (iN (i - 1))), (20, hIdxE 0 encSym s (i - 1) y), (25, hIdxE 0 encSym s (i) x), (28, hBin 0 (.str y.mod) (.str x.mod) (.bool false))] [(0, encS encObj o), (3, encS encSym s), (4, iN (v + 1)), (5, iN f), (6, iN i), (79, .bool false)] [] ⟨good_bin (cmpGtr (decide_eq_true hi0)), good_idxE T23.hu T23.hs kSym hx, good_bin (subN (by omega) (by omega)), good_idxE T23.hu T23.hs kSym hy, good_bin (icEql (by rw [hk, hk']; rfl)), good_bin (subN (by omega) (by omega)), good_idxE T23.hu T23.hs kSym hy, good_idxE T23.hu T23.hs kSym hx, good_bin (strGtrF (by rw [hm, hm']; exact hle)), trivial⟩ (by kernel_rfl) ?_
        refine .cond (b := false) rfl ?_
        refine .skip ?_
        refine gw 108 [(1, hBin 0 (iN i) (iN 1) (iN (i + 1)))] [(0, encS encObj o), (3, encS encSym s), (4, iN (v + 1)), (5, iN f), (6, iN (i + 1))] [] ⟨good_bin (addN (by omega)), trivial⟩ (by kernel_rfl) ?_
        exact ⟨⟨sp 108 [(0, encS encObj o), (3, encS encSym s), (4, iN (v + 1)), (5, iN f), (6, iN (i + 1))], [], 0⟩, Pln.ofT [] (by decide) rfl trivial ⟨⟨_, rfl, kObj.clS _ _ _ _⟩, ⟨_, rfl, kSym.clS _ _ _ _⟩, ⟨_, rfl, .int _ _⟩, ⟨_, rfl, .int _ _⟩, ⟨_, rfl, .int _ _⟩, trivial⟩, (ls s).length - (i + 1), by omega, (i + 1), (v + 1), f, rfl, by omega, by omega, by omega, rfl⟩
      · skip
        refine .skip ?_
        refine .seq ?_
        refine .blk ?_
        refine .seq ?_
        refine .seq ?_
        refine gw 108 [(2, hIdxE 0 encSym s (i) x)] [(0, encS encObj o), (3, encS encSym s), (4, iN v), (5, iN f), (6, iN i), (23, .int .i64 x.kind)] [] ⟨good_idxE T23.hu T23.hs kSym hx, trivial⟩ (by kernel_rfl) ?_
        refine .blk ?_
        refine .seq ?_
        refine gw 108 [(0, hBin 0 (.int .i64 x.kind) (iN 1) (.bool true))] [(0, encS encObj o), (3, encS encSym s), (4, iN v), (5, iN f), (6, iN i), (23, .int .i64 x.kind), (24, .bool true)] [] ⟨good_bin (icEql (by rw [hk]; rfl)), trivial⟩ (by kernel_rfl) ?_
        refine .cond (b := true) rfl ?_
        refine .seq ?_
        refine .seq ?_
        refine gw 108 [(1, hBin 0 (iN f) (iN 0) (.bool false)), (5, hIdxE 0 encSym s (i) x), (9, hBin 0 (.int .i64 x.n) (iN v) (.bool false))] [(0, encS encObj o), (3, encS encSym s), (4, iN v), (5, iN f), (6, iN i), (36, .bool false)] [] ⟨good_bin (cmpGtr (decide_eq_false hf0)), good_idxE T23.hu T23.hs kSym hx, good_bin (icNeq (by rw [hn, show v = i by omega]; simp)), trivial⟩ (by kernel_rfl) ?_
        refine .cond (b := false) rfl ?_
        refine .skip ?_
        refine gw 108 [(1, hBin 0 (iN v) (iN 1) (iN (v + 1)))] [(0, encS encObj o), (3, encS encSym s), (4, iN (v + 1)), (5, iN f), (6, iN i)] [] ⟨good_bin (addN (by omega)), trivial⟩ (by kernel_rfl) ?_
        refine .seq ?_
        refine gw 108 [(1, hBin 0 (iN i) (iN 0) (.bool false))] [(0, encS encObj o), (3, encS encSym s), (4, iN (v + 1)), (5, iN f), (6, iN i), (79, .bool false)] [] ⟨good_bin (cmpGtr (decide_eq_false hi0)), trivial⟩ (by kernel_rfl) ?_
        refine .cond (b := false) rfl ?_
        refine .skip ?_
        refine gw 108 [(1, hBin 0 (iN i) (iN 1) (iN (i + 1)))] [(0, encS encObj o), (3, encS encSym s), (4, iN (v + 1)), (5, iN f), (6, iN (i + 1))] [] ⟨good_bin (addN (by omega)), trivial⟩ (by kernel_rfl) ?_
        exact ⟨⟨sp 108 [(0, encS encObj o), (3, encS encSym s), (4, iN (v + 1)), (5, iN f), (6, iN (i + 1))], [], 0⟩, Pln.ofT [] (by decide) rfl trivial ⟨⟨_, rfl, kObj.clS _ _ _ _⟩, ⟨_, rfl, kSym.clS _ _ _ _⟩, ⟨_, rfl, .int _ _⟩, ⟨_, rfl, .int _ _⟩, ⟨_, rfl, .int _ _⟩, trivial⟩, (ls s).length - (i + 1), by omega, (i + 1), (v + 1), f, rfl, by omega, by omega, by omega, rfl⟩
    · skip
      obtain ⟨x, p, hx, hk, hn, hp, hm⟩ := sAt2 hs (by omega : A.length ≤ i) (by omega)
      by_cases hi0 : i > 0
      · skip
        by_cases hia2 : i - 1 < A.length
        · skip
          obtain ⟨y, p', hy, hk', hn', hp', hm'⟩ := sAt1 hs (i := i - 1) hia2
          refine .skip ?_
          refine .seq ?_
          refine .blk ?_
          refine .seq ?_
          refine .seq ?_
          refine gw 108 [(2, hIdxE 0 encSym s (i) x)] [(0, encS encObj o), (3, encS encSym s), (4, iN v), (5, iN f), (6, iN i), (23, .int .i64 x.kind)] [] ⟨good_idxE T23.hu T23.hs kSym hx, trivial⟩ (by kernel_rfl) ?_
          refine .blk ?_
          refine .seq ?_
          refine gw 108 [(0, hBin 0 (.int .i64 x.kind) (iN 1) (.bool false))] [(0, encS encObj o), (3, encS encSym s), (4, iN v), (5, iN f), (6, iN i), (23, .int .i64 x.kind), (24, .bool false)] [] ⟨good_bin (icEql (by rw [hk]; rfl)), trivial⟩ (by kernel_rfl) ?_
          refine .cond (b := false) rfl ?_
          refine .seq ?_
          refine gw 108 [(0, hBin 0 (.int .i64 x.kind) (iN 2) (.bool true))] [(0, encS encObj o), (3, encS encSym s), (4, iN v), (5, iN f), (6, iN i), (39, .bool true)] [] ⟨good_bin (icEql (by rw [hk]; rfl)), trivial⟩ (by kernel_rfl) ?_
          refine .cond (b := true) rfl ?_
          refine .seq ?_
          refine .seq ?_
          refine gw 108 [(2, hIdxE 0 encSym s (i) x), (6, hBin 0 (.int .i64 x.n) (iN f) (.bool false))] [(0, encS encObj o), (3, encS encSym s), (4, iN v), (5, iN f), (6, iN i), (47, .bool false)] [] ⟨good_idxE T23.hu T23.hs kSym hx, good_bin (icNeq (by rw [hn, show f = i - A.length by omega]; simp)), trivial⟩ (by kernel_rfl) ?_
          refine .cond (b := false) rfl ?_
          refine .skip ?_
          refine gw 108 [(1, hBin 0 (iN f) (iN 1) (iN (f + 1)))] [(0, encS encObj o), (3, encS encSym s), (4, iN v), (5, iN (f + 1)), (6, iN i)] [] ⟨good_bin (addN (by omega)), trivial⟩ (by kernel_rfl) ?_
          refine .seq ?_
          refine gw 108 [(1, hBin 0 (iN i) (iN 0) (.bool true)), (5, hIdxE 0 encSym s (i) x), (10, hBin 0 (iN i) (iN 1) (iN (i - 1))), (11, hIdxE 0 encSym s (i - 1) y), (14, hBin 0 (.int .i64 x.kind) (.int .i64 y.kind) (.bool false))] [(0, encS encObj o), (3, encS encSym s), (4, iN v), (5, iN (f + 1)), (6, iN i), (79, .bool false)] [] ⟨good_bin (cmpGtr (decide_eq_true hi0)), good_idxE T23.hu T23.hs kSym hx, good_bin (subN (by omega) (by omega)), good_idxE T23.hu T23.hs kSym hy, good_bin (icEql (by rw [hk, hk']; rfl)), trivial⟩ (by kernel_rfl) ?_
          refine .cond (b := false) rfl ?_
          refine .skip ?_
          refine gw 108 [(1, hBin 0 (iN i) (iN 1) (iN (i + 1)))] [(0, encS encObj o), (3, encS encSym s), (4, iN v), (5, iN (f + 1)), (6, iN (i + 1))] [] ⟨good_bin (addN (by omega)), trivial⟩ (by kernel_rfl) ?_
          exact ⟨⟨sp 108 [(0, encS encObj o), (3, encS encSym s), (4, iN v), (5, iN (f + 1)), (6, iN (i + 1))], [], 0⟩, Pln.ofT [] (by decide) rfl trivial ⟨⟨_, rfl, kObj.clS _ _ _ _⟩, ⟨_, rfl, kSym.clS _ _ _ _⟩, ⟨_, rfl, .int _ _⟩, ⟨_, rfl, .int _ _⟩, ⟨_, rfl, .int _ _⟩, trivial⟩, (ls s).length - (i + 1), by omega, (i + 1), v, (f + 1), rfl, by omega, by omega, by omega, rfl⟩
        · skip
          obtain ⟨y, p', hy, hk', hn', hp', hm'⟩ := sAt2 hs (i := i - 1) (by omega) (by omega)
          have hle := hsF (i - 1 - A.length) p' p hp' (by rw [show i - 1 - A.length + 1 = i - A.length by omega]; exact hp)
          refine .skip ?_
          refine .seq ?_
          refine .blk ?_
          refine .seq ?_
          refine .seq ?_
          refine gw 108 [(2, hIdxE 0 encSym s (i) x)] [(0, encS encObj o), (3, encS encSym s), (4, iN v), (5, iN f), (6, iN i), (23, .int .i64 x.kind)] [] ⟨good_idxE T23.hu T23.hs kSym hx, trivial⟩ (by kernel_rfl) ?_
          refine .blk ?_
          refine .seq ?_
          refine gw 108 [(0, hBin 0 (.int .i64 x.kind) (iN 1) (.bool false))] [(0, encS encObj o), (3, encS encSym s), (4, iN v), (5, iN f), (6, iN i), (23, .int .i64 x.kind), (24, .bool false)] [] ⟨good_bin (icEql (by rw [hk]; rfl)), trivial⟩ (by kernel_rfl) ?_
          refine .cond (b := false) rfl ?_
          refine .seq ?_
          refine gw 108 [(0, hBin 0 (.int .i64 x.kind) (iN 2) (.bool true))] [(0, encS encObj o), (3, encS encSym s), (4, iN v), (5, iN f), (6, iN i), (39, .bool true)] [] ⟨good_bin (icEql (by rw [hk]; rfl)), trivial⟩ (by kernel_rfl) ?_
          refine .cond (b := true) rfl ?_
          refine .seq ?_
          refine .seq ?_
          refine gw 108 [(2, hIdxE 0 encSym s (i) x), (6, hBin 0 (.int .i64 x.n) (iN f) (.bool false))] [(0, encS encObj o), (3, encS encSym s), (4, iN v), (5, iN f), (6, iN i), (47, .bool false)] [] ⟨good_idxE T23.hu T23.hs kSym hx, good_bin (icNeq (by rw [hn, show f = i - A.length by omega]; simp)), trivial⟩ (by kernel_rfl) ?_
          refine .cond (b := false) rfl ?_
          refine .skip ?_
          refine gw 108 [(1, hBin 0 (iN f) (iN 1) (iN (f + 1)))] [(0, encS encObj o), (3, encS encSym s), (4, iN v), (5, iN (f + 1)), (6, iN i)] [] ⟨good_bin (addN (by omega)), trivial⟩ (by kernel_rfl) ?_
          refine .seq ?_
          refine gw 108 [(1, hBin 0 (iN i) (iN 0) (.bool true)), (5, hIdxE 0 encSym s (i) x), (10, hBin 0 (iN i) (iN 1) (iN (i - 1))), (11, hIdxE 0 encSym s (i - 1) y), (14, hBin 0 (.int .i64 x.kind) (.int .i64 y.kind) (.bool true)), (19, hBin 0 (iN i) (iN 1) (iN (i - 1))), (20, hIdxE 0 encSym s (i - 1) y), (25, hIdxE 0 encSym s (i) x), (28, hBin 0 (.str y.mod) (.str x.mod) (.bool false))] [(0, encS encObj o), (3, encS encSym s), (4, iN v), (5, iN (f + 1)), (6, iN i), (79, .bool false)] [] ⟨good_bin (cmpGtr (decide_eq_true hi0)), good_idxE T23.hu T23.hs kSym hx, good_bin (subN (by omega) (by omega)), good_idxE T23.hu T23.hs kSym hy, good_bin (icEql (by rw [hk, hk']; rfl)), good_bin (subN (by omega) (by omega)), good_idxE T23.hu T23.hs kSym hy, good_idxE T23.hu T23.hs kSym hx, good_bin (strGtrF (by rw [hm, hm']; exact hle)), trivial⟩ (by kernel_rfl) ?_
          refine .cond (b := false) rfl ?_
          refine .skip ?_
          refine gw 108 [(1, hBin 0 (iN i) (iN 1) (iN (i + 1)))] [(0, encS encObj o), (3, encS encSym s), (4, iN v), (5, iN (f + 1)), (6, iN (i + 1))] [] ⟨good_bin (addN (by omega)), trivial⟩ (by kernel_rfl) ?_
          exact ⟨⟨sp 108 [(0, encS encObj o), (3, encS encSym s), (4, iN v), (5, iN (f + 1)), (6, iN (i + 1))], [], 0⟩, Pln.ofT [] (by decide) rfl trivial ⟨⟨_, rfl, kObj.clS _ _ _ _⟩, ⟨_, rfl, kSym.clS _ _ _ _⟩, ⟨_, rfl, .int _ _⟩, ⟨_, rfl, .int _ _⟩, ⟨_, rfl, .int _ _⟩, trivial⟩, (ls s).length - (i + 1), by omega, (i + 1), v, (f + 1), rfl, by omega, by omega, by omega, rfl⟩
      · skip
        refine .skip ?_
        refine .seq ?_
        refine .blk ?_
        refine .seq ?_
        refine .seq ?_
        refine gw 108 [(2, hIdxE 0 encSym s (i) x)] [(0, encS encObj o), (3, encS encSym s), (4, iN v), (5, iN f), (6, iN i), (23, .int .i64 x.kind)] [] ⟨good_idxE T23.hu T23.hs kSym hx, trivial⟩ (by kernel_rfl) ?_
        refine .blk ?_
        refine .seq ?_
        refine gw 108 [(0, hBin 0 (.int .i64 x.kind) (iN 1) (.bool false))] [(0, encS encObj o), (3, encS encSym s), (4, iN v), (5, iN f), (6, iN i), (23, .int .i64 x.kind), (24, .bool false)] [] ⟨good_bin (icEql (by rw [hk]; rfl)), trivial⟩ (by kernel_rfl) ?_
        refine .cond (b := false) rfl ?_
        refine .seq ?_
        refine gw 108 [(0, hBin 0 (.int .i64 x.kind) (iN 2) (.bool true))] [(0, encS encObj o), (3, encS encSym s), (4, iN v), (5, iN f), (6, iN i), (39, .bool true)] [] ⟨good_bin (icEql (by rw [hk]; rfl)), trivial⟩ (by kernel_rfl) ?_
        refine .cond (b := true) rfl ?_
        refine .seq ?_
        refine .seq ?_
        refine gw 108 [(2, hIdxE 0 encSym s (i) x), (6, hBin 0 (.int .i64 x.n) (iN f) (.bool false))] [(0, encS encObj o), (3, encS encSym s), (4, iN v), (5, iN f), (6, iN i), (47, .bool false)] [] ⟨good_idxE T23.hu T23.hs kSym hx, good_bin (icNeq (by rw [hn, show f = i - A.length by omega]; simp)), trivial⟩ (by kernel_rfl) ?_
        refine .cond (b := false) rfl ?_
        refine .skip ?_
        refine gw 108 [(1, hBin 0 (iN f) (iN 1) (iN (f + 1)))] [(0, encS encObj o), (3, encS encSym s), (4, iN v), (5, iN (f + 1)), (6, iN i)] [] ⟨good_bin (addN (by omega)), trivial⟩ (by kernel_rfl) ?_
        refine .seq ?_
        refine gw 108 [(1, hBin 0 (iN i) (iN 0) (.bool false))] [(0, encS encObj o), (3, encS encSym s), (4, iN v), (5, iN (f + 1)), (6, iN i), (79, .bool false)] [] ⟨good_bin (cmpGtr (decide_eq_false hi0)), trivial⟩ (by kernel_rfl) ?_
        refine .cond (b := false) rfl ?_
        refine .skip ?_
        refine gw 108 [(1, hBin 0 (iN i) (iN 1) (iN (i + 1)))] [(0, encS encObj o), (3, encS encSym s), (4, iN v), (5, iN (f + 1)), (6, iN (i + 1))] [] ⟨good_bin (addN (by omega)), trivial⟩ (by kernel_rfl) ?_
        exact ⟨⟨sp 108 [(0, encS encObj o), (3, encS encSym s), (4, iN v), (5, iN (f + 1)), (6, iN (i + 1))], [], 0⟩, Pln.ofT [] (by decide) rfl trivial ⟨⟨_, rfl, kObj.clS _ _ _ _⟩, ⟨_, rfl, kSym.clS _ _ _ _⟩, ⟨_, rfl, .int _ _⟩, ⟨_, rfl, .int _ _⟩, ⟨_, rfl, .int _ _⟩, trivial⟩, (ls s).length - (i + 1), by omega, (i + 1), v, (f + 1), rfl, by omega, by omega, by omega, rfl⟩
  · skip
    refine .condF hlt rfl ?_
    refine .exit ⟨fun _ => ?_, fun h => absurd rfl h⟩
    refine .seq ?_
    refine .seq ?_
    refine gw 108 [] [(0, encS encObj o), (4, iN v), (5, iN f), (7, iN 0)] [] trivial (by kernel_rfl) ?_
    refine .blk ?_
    have hi2 : i = A.length + F.length := by omega
    have hvA : v = A.length := by omega
    have hfF : f = F.length := by omega
    refine .loopG (fun mu sst => ∃ k a b, mu = (ls o).length - k ∧ (k ≤ (ls o).length) ∧ (a + (pV ((ls o).take k)).length = A.length) ∧ (b + (pF ((ls o).take k)).length = F.length) ∧ sst = ⟨sp 108 [(0, encS encObj o), (4, iN a), (5, iN b), (7, iN k)], [], 0⟩) ((ls o).length) ⟨⟨sp 108 [(0, encS encObj o), (4, iN v), (5, iN f), (7, iN 0)], [], 0⟩, Pln.ofT [] (by decide) rfl trivial ⟨⟨_, rfl, kObj.clS _ _ _ _⟩, ⟨_, rfl, .int _ _⟩, ⟨_, rfl, .int _ _⟩, ⟨_, rfl, .int _ _⟩, trivial⟩, 0, v, f, rfl, Nat.zero_le _, hvA, hfF, rfl⟩ ?_
    rintro mu sst ⟨k, a, b, rfl, hk, hva, hfb, rfl⟩
    refine .seq ?_
    refine .seq ?_
    refine gw 108 [(2, hLen 0 (encS encObj o) (ls o).length), (3, hBin 0 (iN k) (iN ((ls o).length)) (.bool (decide (k < (ls o).length))))] [(0, encS encObj o), (4, iN a), (5, iN b), (7, iN k), (83, .bool (decide (k < (ls o).length)))] [] ⟨good_len T22.hu, good_bin (cmpLss rfl), trivial⟩ (by kernel_rfl) ?_
    by_cases hlt2 : k < (ls o).length
    · skip
      refine .condT hlt2 rfl ?_
      obtain ⟨x, hx⟩ : ∃ x, (ls o)[k]? = some x := ⟨_, List.getElem?_eq_getElem hlt2⟩
      have e1 : (pV ((ls o).take (k + 1))).length = (pV ((ls o).take k)).length + (ls x.vars).length := by rw [pV, fl_succ pVo hx, List.length_append, pVo, List.length_map]; rfl
      have e2 : (pF ((ls o).take (k + 1))).length = (pF ((ls o).take k)).length + (ls x.fns).length := by rw [pF, fl_succ pFo hx, List.length_append, pFo, List.length_map]; rfl
      have e3 : (pV ((ls o).take (k + 1))).length ≤ (pV (ls o)).length := fl_take pVo _ _
      have e4 : (pF ((ls o).take (k + 1))).length ≤ (pF (ls o)).length := fl_take pFo _ _
      refine .skip ?_
      refine .seq ?_
      refine .blk ?_
      refine gw 108 [(3, hIdxE 0 encObj o (k) x), (6, hLen 0 (encS encVar x.vars) (ls x.vars).length), (7, hBin 0 (iN a) (iN ((ls x.vars).length)) (iN (a - ((ls x.vars).length)))), (11, hIdxE 0 encObj o (k) x), (14, hLen 0 (encS encFnN x.fns) (ls x.fns).length), (15, hBin 0 (iN b) (iN ((ls x.fns).length)) (iN (b - ((ls x.fns).length))))] [(0, encS encObj o), (4, iN (a - ((ls x.vars).length))), (5, iN (b - ((ls x.fns).length))), (7, iN k)] [] ⟨good_idxE T22.hu T22.hs kObj hx, good_len T34.hu, good_bin (subN (by omega) (by omega)), good_idxE T22.hu T22.hs kObj hx, good_len T35.hu, good_bin (subN (by omega) (by omega)), trivial⟩ (by kernel_rfl) ?_
      refine gw 108 [(1, hBin 0 (iN k) (iN 1) (iN (k + 1)))] [(0, encS encObj o), (4, iN (a - ((ls x.vars).length))), (5, iN (b - ((ls x.fns).length))), (7, iN (k + 1))] [] ⟨good_bin (addN (by omega)), trivial⟩ (by kernel_rfl) ?_
      exact ⟨⟨sp 108 [(0, encS encObj o), (4, iN (a - (ls x.vars).length)), (5, iN (b - (ls x.fns).length)), (7, iN (k + 1))], [], 0⟩, Pln.ofT [] (by decide) rfl trivial ⟨⟨_, rfl, kObj.clS _ _ _ _⟩, ⟨_, rfl, .int _ _⟩, ⟨_, rfl, .int _ _⟩, ⟨_, rfl, .int _ _⟩, trivial⟩, (ls o).length - (k + 1), by omega, (k + 1), (a - (ls x.vars).length), (b - (ls x.fns).length), rfl, by omega, by omega, by omega, rfl⟩
    · skip
      refine .condF hlt2 rfl ?_
      obtain rfl : k = (ls o).length := by omega
      rw [List.take_length] at hva hfb
      have ha0 : a = 0 := by omega
      have hb0 : b = 0 := by omega
      refine .exit ⟨fun _ => ?_, fun h => absurd rfl h⟩
      refine .seq ?_
      refine gw 108 [(1, hBin 0 (iN a) (iN 0) (.bool true)), (4, hBin 0 (iN b) (iN 0) (.bool true))] [(2, .bool true)] [] ⟨good_bin (cmpEql (decide_eq_true ha0)), good_bin (cmpEql (decide_eq_true hb0)), trivial⟩ (by kernel_rfl) ?_
      refine .ret ?_
      exact ⟨.inr rfl, [.bool true], by kernel_rfl, .bool _⟩
theorem adj_of (f : DObj → List Nm) (hf : ∀ o, ∀ p ∈ f o, p.1 = o.mod) {l : List DObj} (h : Srt oLt l) (i : Nat) (p p' : Nm) (h1 : (l.flatMap f)[i]? = some p) (h2 : (l.flatMap f)[i + 1]? = some p') : strLt p'.1 p.1 = false := by
  have hp : (l.flatMap f).Pairwise fun p p' => strLt p'.1 p.1 = false := by
    refine List.pairwise_flatMap.2 ⟨fun o _ => ?_, h.imp fun {a b} hab x hx y hy => by rw [hf a x hx, hf b y hy]; exact hab⟩
    refine List.Pairwise.imp_of_mem (R := fun _ _ => True) (fun {a b} ha hb _ => by rw [hf o a ha, hf o b hb]; exact oOrd.irr o) (List.pairwise_of_forall fun _ _ => trivial)
  obtain ⟨k1, rfl⟩ := List.getElem?_eq_some_iff.1 h1
  obtain ⟨k2, rfl⟩ := List.getElem?_eq_some_iff.1 h2
  exact List.pairwise_iff_getElem.1 hp i (i + 1) k1 k2 (by omega)
theorem LinkNumbers_ok (o : Option (List DObj)) (b : Bnd (ls o)) : OrcAt Try.prog 4 [encS encObj o] [] (.bool true) [] 0 := by
  have hs := st_srt oOrd (ls o)
  refine numbers_walk o (mineL o) (nz (symL (st oLt (ls o)))) (pV (st oLt (ls o))) (pF (st oLt (ls o))) (mine_ok o b.lim) (Symbols_mine o b) (by rw [ls_nz]; rfl) b.lim.1 (flm_st _ _) (flm_st _ _) (by rw [pV, flm_st]; exact b.v) (by rw [pF, flm_st]; exact b.f)
    (fun i p p' h1 h2 => adj_of pVo (fun o p hp => ?_) hs i p p' h1 h2) (fun i p p' h1 h2 => adj_of pFo (fun o p hp => ?_) hs i p p' h1 h2)
  · obtain ⟨v, _, rfl⟩ := List.mem_map.1 hp; rfl
  · obtain ⟨v, _, rfl⟩ := List.mem_map.1 hp; rfl
end Go.Proofs.Ytfihpghhngfelaa.Lk

