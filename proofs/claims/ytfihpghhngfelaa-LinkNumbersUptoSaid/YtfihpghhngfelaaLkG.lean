/- slices.rotateCmpFunc. Conditions: none (definitions and lemmas). -/
import Derived.Test.YtfihpghhngfelaaLkF
namespace Go.Proofs.Ytfihpghhngfelaa.Lk
open Go Go.Proofs Go.Proofs.Ytfihpghhngfelaa.Ev
set_option maxRecDepth 100000
set_option linter.unusedVariables false
set_option linter.unusedSimpArgs false
theorem neqT {t : TypeId} {i j : Nat} : binA Try.prog E0 .neq t (.int .i64 i) (.int .i64 j) = some (.bool (decide (i ≠ j))) := by
  show some (AV.bool (!((i : Int) == (j : Int)))) = _
  by_cases h : i = j
  · subst h; simp
  · have : ¬ (i : Int) = (j : Int) := by omega
    simp [h, this]
def rtE (n a m b i j : Nat) : List (Nat × AV) := [(0, dS n), (1, .int .i64 a), (2, .int .i64 m), (3, .int .i64 b), (4, cF), (10, .int .i64 i), (11, .int .i64 j)]
theorem rotate_ok (P U V Q : List DObj) {n a m b : Nat} (ha : P.length = a) (hm : a + U.length = m) (hb : m + V.length = b) (hU : 0 < U.length) (hV : 0 < V.length) (hn : (P ++ U ++ V ++ Q).length = n) (hn2 : n ≤ 1048576) :
    OrcAt Try.prog 84 [dS n, .int .i64 a, .int .i64 m, .int .i64 b, cF] (dB (P ++ U ++ V ++ Q)) (.tup []) (dB (P ++ V ++ U ++ Q)) 0 := by
  have hlen : a + U.length + V.length + Q.length = n := by rw [← hn]; simp only [List.length_append]; omega
  refine OrcAt.of_body Try.func84 rfl rfl (Nat.zero_le _) (fun _ h => by omega) (Nat.le_refl _) ?_
  refine .lower (lw := 0) (Nat.zero_le _) ?_
  refine .seq (gw 58 [(2, hBin 1 (.int .i64 m) (.int .i64 a) (.int .i64 (U.length : Nat)))] [(0, dS n), (1, .int .i64 a), (2, .int .i64 m), (3, .int .i64 b), (4, cF), (10, .int .i64 (U.length : Nat))] (dB (P ++ U ++ V ++ Q)) ⟨good_bin (by rw [subN (by omega) (by omega), show m - a = U.length by omega]), trivial⟩ (by kernel_rfl) ?_)
  refine .seq (gw 58 [(2, hBin 1 (.int .i64 b) (.int .i64 m) (.int .i64 (V.length : Nat)))] (rtE n a m b U.length V.length) (dB (P ++ U ++ V ++ Q)) ⟨good_bin (by rw [subN (by omega) (by omega), show b - m = V.length by omega]), trivial⟩ (by kernel_rfl) ?_)
  refine .seq (.block (.loop (fun k s => ∃ L U' V' R, k = U'.length + V'.length ∧ L.length + U'.length = m ∧ L.length + U'.length + V'.length + R.length = n ∧ 0 < U'.length ∧ 0 < V'.length ∧ P ++ V ++ U ++ Q = L ++ V' ++ U' ++ R ∧ s = ⟨sp 58 (rtE n a m b U'.length V'.length), dB (L ++ U' ++ V' ++ R), 0⟩) (U.length + V.length) ⟨P, U, V, Q, rfl, by omega, by omega, hU, hV, rfl, rfl⟩ ?_))
  rintro k s ⟨L, U', V', R, rfl, h1, h2, h3, h4, h5, rfl⟩
  refine .seq (.seq (gw 58 [(2, hBin 1 (.int .i64 (U'.length : Nat)) (.int .i64 (V'.length : Nat)) (.bool (decide (U'.length ≠ V'.length))))] ((20, .bool (decide (U'.length ≠ V'.length))) :: rtE n a m b U'.length V'.length) (dB (L ++ U' ++ V' ++ R)) ⟨good_bin neqT, trivial⟩ (by kernel_rfl) ?_))
  by_cases hne : U'.length ≠ V'.length
  · refine .condT hne rfl (.skip ?_)
    by_cases hgt : V'.length < U'.length
    · refine .block (.seq (gw 58 [(2, hBin 1 (.int .i64 (U'.length : Nat)) (.int .i64 (V'.length : Nat)) (.bool true))] ((23, .bool true) :: rtE n a m b U'.length V'.length) (dB (L ++ U' ++ V' ++ R)) ⟨good_bin (gtrT hgt), trivial⟩ (by kernel_rfl) ?_))
      have e1 : (U'.take V'.length).length = V'.length := by rw [List.length_take, Nat.min_eq_left (by omega)]
      have e2 : (U'.drop V'.length).length = U'.length - V'.length := List.length_drop
      have hUe : U'.take V'.length ++ U'.drop V'.length = U' := List.take_append_drop _ _
      have hsw := swap_ok L (U'.take V'.length) (U'.drop V'.length) V' R e1 (n := n) (a := m - U'.length) (b := m) (k := V'.length) e1 (by omega) (by omega) (by simp only [List.length_append]; omega) hn2
      have hd : L ++ U'.take V'.length ++ U'.drop V'.length ++ V' ++ R = L ++ U' ++ V' ++ R := by rw [List.append_assoc L, hUe]
      rw [hd] at hsw
      refine .cond (b := true) rfl (.seq (.go E0_ok (oneOrc_ok hsw) mix0 58 [(3, hBin 1 (.int .i64 m) (.int .i64 (U'.length : Nat)) (.int .i64 ((m - U'.length : Nat) : Int))), (7, hCallH 95 [dS n, .int .i64 ((m - U'.length : Nat) : Int), .int .i64 m, .int .i64 (V'.length : Nat), cF] (dB (L ++ U' ++ V' ++ R)) (.tup []) (dB (L ++ V' ++ U'.drop V'.length ++ U'.take V'.length ++ R)) 0)]
        (rtE n a m b U'.length V'.length) (dB (L ++ V' ++ U'.drop V'.length ++ U'.take V'.length ++ R)) 0 ⟨good_bin (subN (by omega) (by omega)), good_callH rfl rfl, trivial⟩ (by kernel_rfl) ?_))
      refine gw 58 [(2, hBin 1 (.int .i64 (U'.length : Nat)) (.int .i64 (V'.length : Nat)) (.int .i64 ((U'.length - V'.length : Nat) : Int)))] (rtE n a m b (U'.length - V'.length) V'.length) (dB (L ++ V' ++ U'.drop V'.length ++ U'.take V'.length ++ R)) ⟨good_bin (subN (by omega) (by omega)), trivial⟩ (by kernel_rfl) ?_
      refine ⟨(U'.drop V'.length).length + (U'.take V'.length).length, by omega, L ++ V', U'.drop V'.length, U'.take V'.length, R, rfl, by rw [List.length_append]; omega, by rw [List.length_append]; omega, by omega, by omega, ?_, by rw [e1, e2]⟩
      rw [h5]
      conv => lhs; rw [← hUe]
      simp
    · refine .block (.seq (gw 58 [(2, hBin 1 (.int .i64 (U'.length : Nat)) (.int .i64 (V'.length : Nat)) (.bool false))] ((23, .bool false) :: rtE n a m b U'.length V'.length) (dB (L ++ U' ++ V' ++ R)) ⟨good_bin (gtrF (by omega)), trivial⟩ (by kernel_rfl) ?_))
      have e0 : (V'.take (V'.length - U'.length)).length = V'.length - U'.length := by rw [List.length_take, Nat.min_eq_left (by omega)]
      have e1 : (V'.drop (V'.length - U'.length)).length = U'.length := by rw [List.length_drop]; omega
      have hVe : V'.take (V'.length - U'.length) ++ V'.drop (V'.length - U'.length) = V' := List.take_append_drop _ _
      have hsw := swap_ok L U' (V'.take (V'.length - U'.length)) (V'.drop (V'.length - U'.length)) R e1.symm (n := n) (a := m - U'.length) (b := m + V'.length - U'.length) (k := U'.length) rfl (by omega) (by omega) (by simp only [List.length_append]; omega) hn2
      have hd : L ++ U' ++ V'.take (V'.length - U'.length) ++ V'.drop (V'.length - U'.length) ++ R = L ++ U' ++ V' ++ R := by rw [List.append_assoc (L ++ U'), hVe]
      rw [hd] at hsw
      generalize hM : V'.take (V'.length - U'.length) = M at *
      generalize hY : V'.drop (V'.length - U'.length) = Y at *
      refine .cond (b := false) rfl (.seq (.go E0_ok (oneOrc_ok hsw) mix0 58 [(3, hBin 1 (.int .i64 m) (.int .i64 (U'.length : Nat)) (.int .i64 ((m - U'.length : Nat) : Int))), (6, hBin 1 (.int .i64 m) (.int .i64 (V'.length : Nat)) (.int .i64 ((m + V'.length : Nat) : Int))), (8, hBin 1 (.int .i64 ((m + V'.length : Nat) : Int)) (.int .i64 (U'.length : Nat)) (.int .i64 ((m + V'.length - U'.length : Nat) : Int))),
          (11, hCallH 95 [dS n, .int .i64 ((m - U'.length : Nat) : Int), .int .i64 ((m + V'.length - U'.length : Nat) : Int), .int .i64 (U'.length : Nat), cF] (dB (L ++ U' ++ V' ++ R)) (.tup []) (dB (L ++ Y ++ M ++ U' ++ R)) 0)]
        (rtE n a m b U'.length V'.length) (dB (L ++ Y ++ M ++ U' ++ R)) 0 ⟨good_bin (subN (by omega) (by omega)), good_bin (addN (by omega)), good_bin (subN (by omega) (by omega)), good_callH rfl rfl, trivial⟩ (by kernel_rfl) ?_))
      refine gw 58 [(2, hBin 1 (.int .i64 (V'.length : Nat)) (.int .i64 (U'.length : Nat)) (.int .i64 ((V'.length - U'.length : Nat) : Int)))] (rtE n a m b U'.length (V'.length - U'.length)) (dB (L ++ Y ++ M ++ U' ++ R)) ⟨good_bin (subN (by omega) (by omega)), trivial⟩ (by kernel_rfl) ?_
      refine ⟨Y.length + M.length, by omega, L, Y, M, U' ++ R, rfl, by omega, by rw [List.length_append]; omega, by omega, by omega, ?_, by rw [e1, e0]; simp⟩
      rw [h5, ← hVe]
      simp
  · refine .condF hne rfl (.exit ?_)
    simp only [↓reduceIte]
    have hUV : U'.length = V'.length := by omega
    have hsw := swap_ok L U' [] V' R hUV (n := n) (a := m - U'.length) (b := m) (k := U'.length) rfl (by omega) (by simp; omega) (by simp; omega) hn2
    simp only [List.append_nil] at hsw
    refine .go E0_ok (oneOrc_ok hsw) mix0 58 [(3, hBin 1 (.int .i64 m) (.int .i64 (U'.length : Nat)) (.int .i64 ((m - U'.length : Nat) : Int))), (7, hCallH 95 [dS n, .int .i64 ((m - U'.length : Nat) : Int), .int .i64 m, .int .i64 (U'.length : Nat), cF] (dB (L ++ U' ++ V' ++ R)) (.tup []) (dB (L ++ V' ++ U' ++ R)) 0)]
      [] (dB (L ++ V' ++ U' ++ R)) 0 ⟨good_bin (subN (by omega) (by omega)), good_callH rfl rfl, trivial⟩ (by kernel_rfl) ?_
    exact ⟨.inl rfl, Nat.zero_le _, by rw [h5], [], rfl, rfl⟩
end Go.Proofs.Ytfihpghhngfelaa.Lk
