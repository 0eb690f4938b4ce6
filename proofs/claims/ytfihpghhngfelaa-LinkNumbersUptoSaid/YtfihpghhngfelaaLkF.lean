/- slices.swapRangeCmpFunc, rotateCmpFunc. Conditions: none (definitions and lemmas). -/
import Derived.Test.YtfihpghhngfelaaLkO
namespace Go.Proofs.Ytfihpghhngfelaa.Lk
open Go Go.Proofs Go.Proofs.Ytfihpghhngfelaa.Ev
set_option maxRecDepth 100000
set_option linter.unusedVariables false
set_option linter.unusedSimpArgs false
theorem addN {t : TypeId} {i j : Nat} (h : i + j ≤ 4294967295) : binA Try.prog E0 .add t (.int .i64 i) (.int .i64 j) = some (.int .i64 ((i + j : Nat) : Int)) := by
  have : IntKind.i64.wrap ((i : Int) + (j : Int)) = ((i + j : Nat) : Int) := by rw [wrap64_id (by omega) (by omega)]; omega
  show some (AV.int .i64 (IntKind.i64.wrap ((i : Int) + (j : Int)))) = _
  rw [this]
theorem subN {t : TypeId} {i j : Nat} (h : j ≤ i) (h2 : i ≤ 4294967295) : binA Try.prog E0 .sub t (.int .i64 i) (.int .i64 j) = some (.int .i64 ((i - j : Nat) : Int)) := by
  have : IntKind.i64.wrap ((i : Int) - (j : Int)) = ((i - j : Nat) : Int) := by rw [wrap64_id (by omega) (by omega)]; omega
  show some (AV.int .i64 (IntKind.i64.wrap ((i : Int) - (j : Int)))) = _
  rw [this]
theorem setL {L R : List DObj} {x y : DObj} {j : Nat} (h : L.length = j) : (L ++ x :: R).set j y = L ++ y :: R := by
  subst h
  rw [List.set_append_right _ _ (Nat.le_refl _)]
  simp
def srD (P X M Y Q : List DObj) (i : Nat) : List DObj := P ++ Y.take i ++ (X.drop i ++ (M ++ (X.take i ++ (Y.drop i ++ Q))))
def srE (n a b k i : Nat) : List (Nat × AV) := [(0, dS n), (1, .int .i64 a), (2, .int .i64 b), (3, .int .i64 k), (4, cF), (10, .int .i64 i)]
theorem swap_ok (P X M Y Q : List DObj) (hXY : X.length = Y.length) {n a b k : Nat} (hk : X.length = k) (ha : P.length = a) (hb : a + k + M.length = b) (hn : (P ++ X ++ M ++ Y ++ Q).length = n) (hn2 : n ≤ 1048576) :
    OrcAt Try.prog 95 [dS n, .int .i64 a, .int .i64 b, .int .i64 k, cF] (dB (P ++ X ++ M ++ Y ++ Q)) (.tup []) (dB (P ++ Y ++ M ++ X ++ Q)) 0 := by
  have hlen : a + k + M.length + k + Q.length = n := by rw [← hn]; simp only [List.length_append]; omega
  have h0 : P ++ X ++ M ++ Y ++ Q = srD P X M Y Q 0 := by simp [srD]
  have hE : srD P X M Y Q k = P ++ Y ++ M ++ X ++ Q := by
    simp only [srD]
    rw [List.take_of_length_le (by omega), List.drop_eq_nil_of_le (by omega), List.take_of_length_le (by omega), List.drop_eq_nil_of_le (by omega)]
    simp
  rw [h0]
  refine OrcAt.of_body Try.func95 rfl rfl (Nat.zero_le _) (fun _ h => by omega) (Nat.le_refl _) ?_
  refine .lower (lw := 0) (Nat.zero_le _) ?_
  refine .seq (gw 38 [] (srE n a b k 0) (dB (srD P X M Y Q 0)) trivial (by kernel_rfl) ?_)
  refine .block (.loop (fun m s => ∃ i, m = k - i ∧ i ≤ k ∧ s = ⟨sp 38 (srE n a b k i), dB (srD P X M Y Q i), 0⟩) k ⟨0, rfl, Nat.zero_le _, rfl⟩ ?_)
  rintro m s ⟨i, rfl, hi, rfl⟩
  refine .seq (.seq (gw 38 [] ((13, .bool (decide ((i : Int) < (k : Int)))) :: srE n a b k i) (dB (srD P X M Y Q i)) trivial (by kernel_rfl) ?_))
  by_cases hlt : (i : Int) < (k : Int)
  · refine .condT hlt rfl (.skip ?_)
    obtain ⟨x, hx⟩ : ∃ x, X[i]? = some x := ⟨_, List.getElem?_eq_getElem (by omega)⟩
    obtain ⟨y, hy⟩ : ∃ y, Y[i]? = some y := ⟨_, List.getElem?_eq_getElem (by omega)⟩
    have hXd : X.drop i = x :: X.drop (i + 1) := by
      obtain ⟨h1, rfl⟩ := List.getElem?_eq_some_iff.1 hx
      exact List.drop_eq_getElem_cons h1
    have hYd : Y.drop i = y :: Y.drop (i + 1) := by
      obtain ⟨h1, rfl⟩ := List.getElem?_eq_some_iff.1 hy
      exact List.drop_eq_getElem_cons h1
    have hL1 : (P ++ Y.take i).length = a + i := by rw [List.length_append, List.length_take, Nat.min_eq_left (by omega), ha]
    have hD1 : srD P X M Y Q i = (P ++ Y.take i) ++ x :: (X.drop (i + 1) ++ (M ++ (X.take i ++ (Y.drop i ++ Q)))) := by rw [srD, hXd]; rfl
    have hL2 : ∀ z : DObj, (P ++ Y.take i ++ (z :: (X.drop (i + 1) ++ (M ++ X.take i)))).length = b + i := fun z => by
      rw [List.length_append, hL1, List.length_cons, List.length_append, List.length_append, List.length_drop, List.length_take, Nat.min_eq_left (by omega)]; omega
    have hD2 : ∀ z : DObj, (P ++ Y.take i) ++ z :: (X.drop (i + 1) ++ (M ++ (X.take i ++ (Y.drop i ++ Q)))) = (P ++ Y.take i ++ (z :: (X.drop (i + 1) ++ (M ++ X.take i)))) ++ y :: (Y.drop (i + 1) ++ Q) := fun z => by rw [hYd]; simp
    generalize hD : srD P X M Y Q i = D at hD1
    have hgx : D[a + i]? = some x := by rw [hD1]; exact getL hL1
    have hgy : D[b + i]? = some y := by rw [hD1, hD2]; exact getL (hL2 x)
    have hDl : D.length = n := by
      rw [← hD, ← hlen]; simp only [srD, List.length_append, List.length_take, List.length_drop]; omega
    refine .seq (.block (gw 38 [(3, hBin 1 (.int .i64 a) (.int .i64 i) (.int .i64 ((a + i : Nat) : Int))), (7, hBin 1 (.int .i64 b) (.int .i64 i) (.int .i64 ((b + i : Nat) : Int))), (11, hBin 1 (.int .i64 b) (.int .i64 i) (.int .i64 ((b + i : Nat) : Int))),
        (12, hIdxS 1 0 n n false 4 ((b + i : Nat) : Int) (b + i)), (13, hLd 1 0 (encL encObj D) 43 ((b + i) * 4) (encObj y)), (17, hBin 1 (.int .i64 a) (.int .i64 i) (.int .i64 ((a + i : Nat) : Int))), (18, hIdxS 1 0 n n false 4 ((a + i : Nat) : Int) (a + i)), (19, hLd 1 0 (encL encObj D) 43 ((a + i) * 4) (encObj x)),
        (20, hIdxS 1 0 n n false 4 ((a + i : Nat) : Int) (a + i)), (21, hSt 1 0 (encL encObj D) 43 ((a + i) * 4) (encObj y) (encL encObj (D.set (a + i) y))), (22, hIdxS 1 0 n n false 4 ((b + i : Nat) : Int) (b + i)), (23, hSt 1 0 (encL encObj (D.set (a + i) y)) 43 ((b + i) * 4) (encObj x) (encL encObj ((D.set (a + i) y).set (b + i) x)))]
      (srE n a b k i) (dB ((D.set (a + i) y).set (b + i) x))
      ⟨good_bin (addN (by omega)), good_bin (addN (by omega)), good_bin (addN (by omega)), objIdx (by omega), objLd hgy, good_bin (addN (by omega)), objIdx (by omega), objLd hgx, objIdx (by omega), objSt (by omega), objIdx (by omega), objSt (by rw [List.length_set]; omega), trivial⟩ (by kernel_rfl) ?_))
    have hfin : (D.set (a + i) y).set (b + i) x = srD P X M Y Q (i + 1) := by
      rw [hD1, setL hL1, hD2 y, setL (hL2 y), srD, List.take_add_one, List.take_add_one, hx, hy]
      simp
    rw [hfin]
    refine gw 38 [(1, hBin 1 (.int .i64 i) (.int .i64 (1 : Nat)) (.int .i64 ((i + 1 : Nat) : Int)))] (srE n a b k (i + 1)) (dB (srD P X M Y Q (i + 1))) ⟨good_bin (addN (by omega)), trivial⟩ (by kernel_rfl) ?_
    exact ⟨k - (i + 1), by omega, i + 1, rfl, by omega, rfl⟩
  · refine .condF hlt rfl (.exit ?_)
    simp only [↓reduceIte]
    refine ⟨.inl trivial, Nat.zero_le _, ?_, [], rfl, rfl⟩
    rw [show i = k by omega, hE]
end Go.Proofs.Ytfihpghhngfelaa.Lk
