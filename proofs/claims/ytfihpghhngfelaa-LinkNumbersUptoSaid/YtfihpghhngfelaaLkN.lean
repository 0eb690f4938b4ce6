/- slices.stableCmpFunc, SortStableFunc. Conditions: none (definitions and lemmas). -/
import Derived.Test.YtfihpghhngfelaaLkM
namespace Go.Proofs.Ytfihpghhngfelaa.Lk
open Go Go.Proofs Go.Proofs.Ytfihpghhngfelaa.Ev
set_option maxRecDepth 100000
set_option linter.unusedVariables false
set_option linter.unusedSimpArgs false
section
variable {α : Type} {lt : α → α → Bool}
/-- Sorted in pieces of so many. -/
inductive Chk (lt : α → α → Bool) (bs : Nat) : List α → List α → Prop
  | last {l : List α} : l.length ≤ bs → Chk lt bs l (st lt l)
  | cons {A R R' : List α} : A.length = bs → Chk lt bs R R' → Chk lt bs (A ++ R) (st lt A ++ R')
theorem Chk.len {bs : Nat} {l l' : List α} (h : Chk lt bs l l') : l'.length = l.length := by
  induction h with
  | last _ => rw [st_length]
  | cons _ _ ih => rw [List.length_append, List.length_append, ih, st_length]
theorem Chk.one {bs : Nat} {l l' : List α} (h : Chk lt bs l l') (hl : l.length ≤ bs) : l' = st lt l := by
  cases h with
  | last _ => rfl
  | @cons A R R' hA hR =>
    have hR0 : R = [] := by
      rw [List.length_append] at hl
      exact List.length_eq_zero_iff.1 (by omega)
    subst hR0
    have := hR.len
    have h2 : R' = [] := List.length_eq_zero_iff.1 this
    rw [h2, List.append_nil, List.append_nil]
theorem Chk.split {bs : Nat} {l l' : List α} (h : Chk lt bs l l') (hl : bs ≤ l.length) : ∃ A R R', A.length = bs ∧ l = A ++ R ∧ l' = st lt A ++ R' ∧ Chk lt bs R R' := by
  cases h with
  | last h => exact ⟨l, [], [], by omega, by simp, by simp, .last (Nat.zero_le _)⟩
  | @cons A R R' hA hR => exact ⟨A, R, R', hA, rfl, rfl, hR⟩
end
theorem leqB {t : TypeId} {i j : Nat} {b : Bool} (h : decide (i ≤ j) = b) : binA Try.prog E0 .leq t (.int .i64 i) (.int .i64 j) = some (.bool b) := by
  have : binA Try.prog E0 .leq t (.int .i64 i) (.int .i64 j) = some (AV.bool (decide ((i : Int) ≤ (j : Int)))) := by kernel_rfl
  rw [this]
  subst h
  congr 2
  by_cases hx : i ≤ j
  · rw [decide_eq_true hx, decide_eq_true (by omega)]
  · rw [decide_eq_false hx, decide_eq_false (by omega)]
theorem mulN {t : TypeId} {i j : Nat} (h : i * j ≤ 4294967295) : binA Try.prog E0 .mul t (.int .i64 i) (.int .i64 j) = some (.int .i64 ((i * j : Nat) : Int)) := by
  have : IntKind.i64.wrap ((i : Int) * (j : Int)) = ((i * j : Nat) : Int) := by
    rw [← Int.natCast_mul, wrap64_id (by omega) (by omega)]
  show some (AV.int .i64 (IntKind.i64.wrap ((i : Int) * (j : Int)))) = _
  rw [this]
def sfE (n bs a b : Nat) : List (Nat × AV) := [(0, dS n), (1, iN n), (2, cF), (6, iN bs), (7, iN a), (8, iN b)]
theorem stable_ok (d0 : List DObj) (n : Nat) (hn : d0.length = n) (hn2 : n ≤ 1048576) :
    OrcAt Try.prog 47 [dS n, iN n, cF] (dB d0) (.tup []) (dB (st oLt d0)) 0 := by
  have O := oOrd
  refine OrcAt.of_body Try.func47 rfl rfl (Nat.zero_le _) (fun _ h => by omega) (Nat.le_refl _) ?_
  refine .lower (lw := 0) (Nat.zero_le _) ?_
  refine .seq (gw 63 [] [(0, dS n), (1, iN n), (2, cF), (6, iN 20)] (dB d0) trivial (by kernel_rfl) ?_)
  refine .seq (gw 63 [] (sfE n 20 0 20) (dB d0) trivial (by kernel_rfl) ?_)
  refine .seq (.block (.loop (fun k s => ∃ X Y X', k = n - X.length ∧ d0 = X ++ Y ∧ X'.length = X.length ∧ (∀ R R', Chk oLt 20 R R' → Chk oLt 20 (X ++ R) (X' ++ R')) ∧ s = ⟨sp 63 (sfE n 20 X.length (X.length + 20)), dB (X' ++ Y), 0⟩) n ⟨[], d0, [], rfl, rfl, rfl, fun _ _ h => h, rfl⟩ ?_))
  · rintro k s ⟨X, Y, X', rfl, hXY, hX', hcl, rfl⟩
    have hl : X.length + Y.length = n := by rw [← hn, hXY, List.length_append]
    refine .seq (.seq (gw 63 [(2, hBin 1 (iN (X.length + 20)) (iN n) (.bool (decide (X.length + 20 ≤ n))))] ((13, .bool (decide (X.length + 20 ≤ n))) :: sfE n 20 X.length (X.length + 20)) (dB (X' ++ Y)) ⟨good_bin (leqB rfl), trivial⟩ (by kernel_rfl) ?_))
    by_cases hlt : X.length + 20 ≤ n
    · refine .condT hlt rfl (.skip ?_)
      have hnl : (X' ++ Y).length = n := by rw [List.length_append]; omega
      have so := isort_ok O (X' ++ Y) (by omega) X.length (X.length + 20) (by omega) (by omega)
      rw [hnl] at so
      have e1 : (X' ++ Y).take X.length ++ st oLt (((X' ++ Y).take (X.length + 20)).drop X.length) ++ (X' ++ Y).drop (X.length + 20) = X' ++ st oLt (Y.take 20) ++ Y.drop 20 := by
        rw [← hX', List.take_left, List.take_length_add_append, List.drop_left, List.drop_length_add_append]
      rw [e1] at so
      refine .block (.seq (.go E0_ok (oneOrc_ok so) mix0 63 [(4, hCallH 58 [dS n, iN X.length, iN (X.length + 20), cF] (dB (X' ++ Y)) (.tup []) (dB (X' ++ st oLt (Y.take 20) ++ Y.drop 20)) 0)] (sfE n 20 X.length (X.length + 20)) (dB (X' ++ st oLt (Y.take 20) ++ Y.drop 20)) 0 ⟨good_callH rfl rfl, trivial⟩ (by kernel_rfl) ?_))
      refine .seq (gw 63 [] (sfE n 20 (X.length + 20) (X.length + 20)) (dB (X' ++ st oLt (Y.take 20) ++ Y.drop 20)) trivial (by kernel_rfl) ?_)
      refine gw 63 [(2, hBin 1 (iN (X.length + 20)) (iN 20) (iN (X.length + 20 + 20)))] (sfE n 20 (X.length + 20) (X.length + 20 + 20)) (dB (X' ++ st oLt (Y.take 20) ++ Y.drop 20)) ⟨good_bin (addN (by omega)), trivial⟩ (by kernel_rfl) ?_
      have l2 : (Y.take 20).length = 20 := by rw [List.length_take]; omega
      have l3 : (X ++ Y.take 20).length = X.length + 20 := by rw [List.length_append, l2]
      refine ⟨n - (X.length + 20), by omega, X ++ Y.take 20, Y.drop 20, X' ++ st oLt (Y.take 20), by rw [l3], by rw [hXY]; simp, by rw [List.length_append, st_length, l2, l3]; omega, fun R R' h => ?_, by rw [l3]⟩
      rw [List.append_assoc, List.append_assoc]
      exact hcl _ _ (.cons l2 h)
    · refine .condF hlt rfl (.exit ?_)
      simp only [↓reduceIte]
      have hnl : (X' ++ Y).length = n := by rw [List.length_append]; omega
      have so := isort_ok O (X' ++ Y) (by omega) X.length n (by omega) (by omega)
      have e1 : (X' ++ Y).take X.length ++ st oLt (((X' ++ Y).take n).drop X.length) ++ (X' ++ Y).drop n = X' ++ st oLt Y := by
        rw [List.take_of_length_le (show (X' ++ Y).length ≤ n by omega), ← hX', List.take_left, List.drop_left, List.drop_eq_nil_of_le (by omega), List.append_nil]
      rw [e1, hnl] at so
      refine .seq (.go E0_ok (oneOrc_ok so) mix0 63 [(4, hCallH 58 [dS n, iN X.length, iN n, cF] (dB (X' ++ Y)) (.tup []) (dB (X' ++ st oLt Y)) 0)] [(0, dS n), (1, iN n), (2, cF), (6, iN 20)] (dB (X' ++ st oLt Y)) 0 ⟨good_callH rfl rfl, trivial⟩ (by kernel_rfl) ?_)
      have hchk : Chk oLt 20 d0 (X' ++ st oLt Y) := by rw [hXY]; exact hcl _ _ (.last (by omega))
      clear hXY hX' hcl hl hlt hnl so e1
      generalize X' ++ st oLt Y = d at hchk
      refine .block (.loop (fun k s => ∃ bs d, k = n - bs ∧ 0 < bs ∧ bs ≤ 4194304 ∧ Chk oLt bs d0 d ∧ s = ⟨sp 63 [(0, dS n), (1, iN n), (2, cF), (6, iN bs)], dB d, 0⟩) (n - 20) ⟨20, d, rfl, by decide, by decide, hchk, rfl⟩ ?_)
      clear hchk
      rintro k s ⟨bs, d, rfl, hbs, hbs2, hchk, rfl⟩
      refine .seq (.seq (gw 63 [(2, hBin 1 (iN bs) (iN n) (.bool (decide (bs < n))))] [(0, dS n), (1, iN n), (2, cF), (6, iN bs), (30, .bool (decide (bs < n)))] (dB d) ⟨good_bin (lssB rfl), trivial⟩ (by kernel_rfl) ?_))
      by_cases hlt : bs < n
      · refine .condT hlt rfl (.skip ?_)
        refine .block (.seq (gw 63 [(1, hBin 1 (iN 2) (iN bs) (iN (2 * bs)))] (sfE n bs 0 (2 * bs)) (dB d) ⟨good_bin (mulN (by omega)), trivial⟩ (by kernel_rfl) ?_))
        refine .seq (.block (.loop (fun k s => ∃ X Y X' Y', k = n - X.length ∧ d0 = X ++ Y ∧ X'.length = X.length ∧ Chk oLt bs Y Y' ∧ (∀ R R', Chk oLt (2 * bs) R R' → Chk oLt (2 * bs) (X ++ R) (X' ++ R')) ∧ s = ⟨sp 63 (sfE n bs X.length (X.length + 2 * bs)), dB (X' ++ Y'), 0⟩) n ⟨[], d0, [], d, rfl, rfl, rfl, hchk, fun _ _ h => h, by rw [List.length_nil, Nat.zero_add]; rfl⟩ ?_))
        clear hchk
        rintro k s ⟨X, Y, X', Y', rfl, hXY, hX', hY, hcl, rfl⟩
        have hl : X.length + Y.length = n := by rw [← hn, hXY, List.length_append]
        have hYl := hY.len
        refine .seq (.seq (gw 63 [(2, hBin 1 (iN (X.length + 2 * bs)) (iN n) (.bool (decide (X.length + 2 * bs ≤ n))))] ((35, .bool (decide (X.length + 2 * bs ≤ n))) :: sfE n bs X.length (X.length + 2 * bs)) (dB (X' ++ Y')) ⟨good_bin (leqB rfl), trivial⟩ (by kernel_rfl) ?_))
        by_cases hlt2 : X.length + 2 * bs ≤ n
        · refine .condT hlt2 rfl (.skip ?_)
          obtain ⟨A, Y1, Y1', hA, rfl, rfl, hY1⟩ := hY.split (by omega)
          rw [List.length_append] at hl
          obtain ⟨B, Y2, Y2', hB, rfl, rfl, hY2⟩ := hY1.split (by omega)
          have sm := sym_ok _ X' (st oLt A) (st oLt B) Y2' n X.length (X.length + bs) (X.length + 2 * bs) (Nat.le_refl _) (fun k => by have := st_length oLt A; rw [k] at this; simp at this; omega) (fun k => by have := st_length oLt B; rw [k] at this; simp at this; omega) (st_srt O _) (st_srt O _) hX'
            (by rw [st_length]; omega) (by rw [st_length]; omega) (by have := hY2.len; simp only [List.length_append, st_length] at hl ⊢; omega) hn2
          rw [st_cong O (show Same oLt (st oLt A ++ st oLt B) (A ++ B) from (st_same O A).append (st_same O B))] at sm
          rw [show X' ++ (st oLt A ++ (st oLt B ++ Y2')) = X' ++ st oLt A ++ st oLt B ++ Y2' by simp only [List.append_assoc]]
          have l2 : (A ++ B).length = 2 * bs := by rw [List.length_append]; omega
          have l3 : (X ++ (A ++ B)).length = X.length + 2 * bs := by rw [List.length_append, l2]
          refine .block (.seq (.go E0_ok (oneOrc_ok sm) mix0 63 [(4, hBin 1 (iN X.length) (iN bs) (iN (X.length + bs))), (7, hCallH 59 [dS n, iN X.length, iN (X.length + bs), iN (X.length + 2 * bs), cF] (dB (X' ++ st oLt A ++ st oLt B ++ Y2')) (.tup []) (dB (X' ++ st oLt (A ++ B) ++ Y2')) 0)] (sfE n bs X.length (X.length + 2 * bs)) (dB (X' ++ st oLt (A ++ B) ++ Y2')) 0 ⟨good_bin (addN (by omega)), good_callH rfl rfl, trivial⟩ (by kernel_rfl) ?_))
          refine .seq (gw 63 [] (sfE n bs (X.length + 2 * bs) (X.length + 2 * bs)) (dB (X' ++ st oLt (A ++ B) ++ Y2')) trivial (by kernel_rfl) ?_)
          refine gw 63 [(2, hBin 1 (iN 2) (iN bs) (iN (2 * bs))), (3, hBin 1 (iN (X.length + 2 * bs)) (iN (2 * bs)) (iN (X.length + 2 * bs + 2 * bs)))] (sfE n bs (X.length + 2 * bs) (X.length + 2 * bs + 2 * bs)) (dB (X' ++ st oLt (A ++ B) ++ Y2')) ⟨good_bin (mulN (by omega)), good_bin (addN (by omega)), trivial⟩ (by kernel_rfl) ?_
          refine ⟨n - (X.length + 2 * bs), by omega, X ++ (A ++ B), Y2, X' ++ st oLt (A ++ B), Y2', by rw [l3], by rw [hXY]; simp, by rw [List.length_append, st_length, l2, l3]; omega, hY2, fun R R' h => ?_, by rw [l3]⟩
          rw [List.append_assoc X (A ++ B) R, List.append_assoc X' (st oLt (A ++ B)) R']
          exact hcl _ _ (.cons l2 h)
        · refine .condF hlt2 rfl (.exit ?_)
          simp only [↓reduceIte]
          refine .join ⟨sp 63 [(0, dS n), (1, iN n), (2, cF), (6, iN bs)], dB (X' ++ st oLt Y), 0⟩ ?_ ?_
          · refine .seq (gw 63 [(2, hBin 1 (iN X.length) (iN bs) (iN (X.length + bs)))] ((9, iN (X.length + bs)) :: sfE n bs X.length (X.length + 2 * bs)) (dB (X' ++ Y')) ⟨good_bin (addN (by omega)), trivial⟩ (by kernel_rfl) ?_)
            by_cases hlt3 : X.length + bs < n
            · refine .seq (gw 63 [(2, hBin 1 (iN (X.length + bs)) (iN n) (.bool true))] ((54, .bool true) :: (9, iN (X.length + bs)) :: sfE n bs X.length (X.length + 2 * bs)) (dB (X' ++ Y')) ⟨good_bin (lssB (decide_eq_true hlt3)), trivial⟩ (by kernel_rfl) ?_)
              refine .cond (b := true) rfl ?_
              obtain ⟨A, Y1, Y1', hA, rfl, rfl, hY1⟩ := hY.split (by omega)
              rw [List.length_append] at hl
              obtain rfl := hY1.one (by omega)
              have sm := sym_ok _ X' (st oLt A) (st oLt Y1) [] n X.length (X.length + bs) n (Nat.le_refl _) (fun k => by have := st_length oLt A; rw [k] at this; simp at this; omega) (fun k => by have := st_length oLt Y1; rw [k] at this; simp at this; omega) (st_srt O _) (st_srt O _) hX'
                (by rw [st_length]; omega) (by rw [st_length]; omega) (by simp only [List.length_append, st_length, List.length_nil]; omega) hn2
              rw [st_cong O (show Same oLt (st oLt A ++ st oLt Y1) (A ++ Y1) from (st_same O A).append (st_same O Y1)), List.append_nil, List.append_nil] at sm
              rw [show X' ++ (st oLt A ++ st oLt Y1) = X' ++ st oLt A ++ st oLt Y1 by simp only [List.append_assoc]]
              exact .go E0_ok (oneOrc_ok sm) mix0 63 [(5, hCallH 59 [dS n, iN X.length, iN (X.length + bs), iN n, cF] (dB (X' ++ st oLt A ++ st oLt Y1)) (.tup []) (dB (X' ++ st oLt (A ++ Y1))) 0)] [(0, dS n), (1, iN n), (2, cF), (6, iN bs)] (dB (X' ++ st oLt (A ++ Y1))) 0 ⟨good_callH rfl rfl, trivial⟩ (by kernel_rfl) ⟨rfl, rfl⟩
            · refine .seq (gw 63 [(2, hBin 1 (iN (X.length + bs)) (iN n) (.bool false))] [(54, .bool false), (0, dS n), (1, iN n), (2, cF), (6, iN bs)] (dB (X' ++ Y')) ⟨good_bin (lssB (decide_eq_false hlt3)), trivial⟩ (by kernel_rfl) ?_)
              obtain rfl := hY.one (by omega)
              exact .cond (b := false) rfl (.forget (by kernel_rfl) (.skip ⟨rfl, rfl⟩))
          · refine gw 63 [(1, hBin 1 (iN bs) (iN 2) (iN (bs * 2)))] [(0, dS n), (1, iN n), (2, cF), (6, iN (2 * bs))] (dB (X' ++ st oLt Y)) ⟨good_bin (mulN (by omega)), trivial⟩ (by rw [Nat.mul_comm 2 bs]; kernel_rfl) ?_
            exact ⟨n - 2 * bs, by omega, 2 * bs, X' ++ st oLt Y, rfl, by omega, by omega, by rw [hXY]; exact hcl _ _ (.last (by omega)), rfl⟩
      · refine .condF hlt rfl (.exit ?_)
        simp only [↓reduceIte]
        obtain rfl := hchk.one (by omega)
        exact ⟨.inl trivial, Nat.zero_le _, rfl, [], rfl, rfl⟩
theorem sortS_ok (d0 : List DObj) (n : Nat) (hn : d0.length = n) (hn2 : n ≤ 1048576) :
    OrcAt Try.prog 37 [dS n, cF] (dB d0) (.tup []) (dB (st oLt d0)) 0 := by
  refine OrcAt.of_body Try.func37 rfl rfl (Nat.zero_le _) (fun _ h => by omega) (Nat.le_refl _) ?_
  refine .lower (lw := 0) (Nat.zero_le _) ?_
  exact .go E0_ok (oneOrc_ok (stable_ok d0 n hn hn2)) mix0 9 [(4, hCallH 47 [dS n, iN n, cF] (dB d0) (.tup []) (dB (st oLt d0)) 0)] [] (dB (st oLt d0)) 0 ⟨good_callH rfl rfl, trivial⟩ (by kernel_rfl) ⟨.inl rfl, Nat.zero_le _, rfl, [], rfl, rfl⟩
end Go.Proofs.Ytfihpghhngfelaa.Lk
