/- symMergeCmpFunc, one element on the right. Conditions: none (definitions and lemmas). -/
import Derived.Test.YtfihpghhngfelaaLkJ
namespace Go.Proofs.Ytfihpghhngfelaa.Lk
open Go Go.Proofs Go.Proofs.Ytfihpghhngfelaa.Ev
set_option maxRecDepth 100000
set_option linter.unusedVariables false
set_option linter.unusedSimpArgs false
theorem eqlF {t : TypeId} {i j : Nat} (h : i ≠ j) : binA Try.prog E0 .eql t (.int .i64 i) (.int .i64 j) = some (.bool false) := by
  show some (AV.bool (((i : Int) == (j : Int)))) = _
  have : ¬ (i : Int) = (j : Int) := by omega
  simp [this]
theorem gtrB {t : TypeId} {i j : Nat} {b : Bool} (h : decide (j < i) = b) : binA Try.prog E0 .gtr t (.int .i64 i) (.int .i64 j) = some (.bool b) := by
  subst h
  by_cases hx : j < i
  · rw [gtrT hx, decide_eq_true hx]
  · rw [gtrF (by omega), decide_eq_false hx]
theorem symB (P U Q : List DObj) (x : DObj) (hU : Srt oLt U) {n a m : Nat} (ha : P.length = a) (hm : a + U.length = m) (hU2 : U.length ≠ 1) (hn : (P ++ U ++ [x] ++ Q).length = n) (hn2 : n ≤ 1048576) :
    OrcAt Try.prog 59 [dS n, iN a, iN m, iN (m + 1), cF] (dB (P ++ U ++ [x] ++ Q)) (.tup []) (dB (P ++ st oLt (U ++ [x]) ++ Q)) 0 := by
  have O := oOrd
  have hlen : a + U.length + 1 + Q.length = n := by rw [← hn]; simp only [List.length_append, List.length_singleton]; omega
  generalize hD : P ++ U ++ [x] ++ Q = D at hn
  have hgx : D[m]? = some x := by rw [← hD, List.append_assoc]; exact getL (by rw [List.length_append]; omega)
  refine OrcAt.of_body Try.func59 rfl rfl (Nat.zero_le _) (fun _ h => by omega) (Nat.le_refl _) ?_
  refine .lower (lw := 0) (Nat.zero_le _) ?_
  refine .seq (.seq (gw 220 [(2, hBin 1 (iN m) (iN a) (iN U.length)), (3, hBin 1 (iN U.length) (iN 1) (.bool false))] ((28, .bool false) :: smE n a m (m + 1)) (dB D) ⟨good_bin (by rw [subN (by omega) (by omega), show m - a = U.length by omega]), good_bin (eqlF hU2), trivial⟩ (by kernel_rfl) ?_))
  refine .cond (b := false) rfl (.skip ?_)
  refine .seq (.seq (gw 220 [(2, hBin 1 (iN (m + 1)) (iN m) (iN 1)), (3, hBin 1 (iN 1) (iN 1) (.bool true))] ((80, .bool true) :: smE n a m (m + 1)) (dB D) ⟨good_bin (by rw [subN (by omega) (by omega), show m + 1 - m = 1 by omega]), good_bin (eqlT rfl), trivial⟩ (by kernel_rfl) ?_))
  refine .cond (b := true) rfl (.seq (gw 220 [] ((14, iN a) :: smE n a m (m + 1)) (dB D) trivial (by kernel_rfl) ?_))
  refine .seq (gw 220 [] ((14, iN a) :: (15, iN m) :: smE n a m (m + 1)) (dB D) trivial (by kernel_rfl) ?_)
  refine .seq (.block (.loop (fun k s => ∃ V1 W V2, k = W.length ∧ U = V1 ++ W ++ V2 ∧ (∀ v ∈ V1, oLt x v = false) ∧ (∀ v ∈ V2, oLt x v = true) ∧ s = ⟨sp 220 ((14, iN (a + V1.length)) :: (15, iN (a + V1.length + W.length)) :: smE n a m (m + 1)), dB D, 0⟩) U.length
    ⟨[], U, [], rfl, by simp, by simp, by simp, by simp only [List.length_nil, Nat.add_zero, hm]⟩ ?_))
  rintro k s ⟨V1, W, V2, rfl, hVV, hV1, hV2, rfl⟩
  have hl : V1.length + W.length + V2.length = U.length := by rw [hVV]; simp only [List.length_append]
  refine .seq (.seq (gw 220 [(2, hBin 1 (iN (a + V1.length)) (iN (a + V1.length + W.length)) (.bool (decide (a + V1.length < a + V1.length + W.length))))] ((85, .bool (decide (a + V1.length < a + V1.length + W.length))) :: (14, iN (a + V1.length)) :: (15, iN (a + V1.length + W.length)) :: smE n a m (m + 1)) (dB D) ⟨good_bin (lssB rfl), trivial⟩ (by kernel_rfl) ?_))
  by_cases hlt : a + V1.length < a + V1.length + W.length
  · refine .condT hlt rfl (.skip ?_)
    generalize hs : a + V1.length = s0 at *
    generalize hh : (s0 + (s0 + W.length)) / 2 = h
    have hh1 : s0 ≤ h := by omega
    have hh2 : h < s0 + W.length := by omega
    obtain ⟨W1, w, W2, hW, hW1⟩ := cut_at (W := W) (h := h - s0) (by omega)
    have hWl : W.length = W1.length + 1 + W2.length := by rw [hW]; simp only [List.length_append, List.length_cons]; omega
    have hsW : Srt oLt (W1 ++ w :: W2) := by
      rw [hVV, hW] at hU
      exact (List.pairwise_append.1 (List.pairwise_append.1 hU).1).2.1
    have hDw : D[h]? = some w := by
      have : D = (P ++ V1 ++ W1) ++ w :: (W2 ++ V2 ++ [x] ++ Q) := by rw [← hD, hVV, hW]; simp
      rw [this]
      exact getL (by simp only [List.length_append]; omega)
    refine .block (.seq (gw 220 [(2, hBin 1 (iN s0) (iN (s0 + W.length)) (iN (s0 + (s0 + W.length)))), (3, hCv 1 (iN (s0 + (s0 + W.length))) (.int .u64 ((s0 + (s0 + W.length) : Nat) : Int))), (4, hBin 1 (.int .u64 ((s0 + (s0 + W.length) : Nat) : Int)) (.int .u64 1) (.int .u64 (h : Int))), (5, hCv 1 (.int .u64 (h : Int)) (iN h))]
      ((16, iN h) :: (14, iN s0) :: (15, iN (s0 + W.length)) :: smE n a m (m + 1)) (dB D) ⟨good_bin (addN (by omega)), good_cv (cvU (by omega)), good_bin (by rw [shr1, hh]), good_cv (cvI (by omega)), trivial⟩ (by kernel_rfl) ?_))
    refine .seq (.go E0_ok (ordOrc x w) mix0 220 [(3, hIdxS 1 0 n n false 4 m m), (4, hLd 1 0 (encL encObj D) 43 (m * 4) (encObj x)), (7, hIdxS 1 0 n n false 4 h h), (8, hLd 1 0 (encL encObj D) 43 (h * 4) (encObj w)), (9, hCall 1 38 [.agg (encObj x), .agg (encObj w)] (.int .i64 (cmpS x.mod w.mod)))]
      ((103, .bool (!decide (cmpS x.mod w.mod < 0))) :: (16, iN h) :: (14, iN s0) :: (15, iN (s0 + W.length)) :: smE n a m (m + 1)) (dB D) 0 ⟨objIdx (by omega), objLd hgx, objIdx (by omega), objLd hDw, good_call rfl rfl, trivial⟩ (by kernel_rfl) ?_)
    cases hc : oLt x w with
    | false =>
      refine .cond (b := true) (by show AV.bool (!decide (cmpS x.mod w.mod < 0)) = _; rw [cmpS_lt]; exact congrArg (fun b => AV.bool (!b)) hc) ?_
      refine gw 220 [(1, hBin 1 (iN h) (iN 1) (iN (h + 1)))] ((14, iN (h + 1)) :: (15, iN (s0 + W.length)) :: smE n a m (m + 1)) (dB D) ⟨good_bin (addN (by omega)), trivial⟩ (by kernel_rfl) ?_
      refine ⟨W2.length, by omega, V1 ++ (W1 ++ [w]), W2, V2, rfl, by rw [hVV, hW]; simp, fun v hv => ?_, hV2, ?_⟩
      · rcases List.mem_append.1 hv with hv | hv
        · exact hV1 v hv
        · exact low_nlt O hsW hc v hv
      · have e1 : a + (V1 ++ (W1 ++ [w])).length = h + 1 := by simp only [List.length_append, List.length_singleton]; omega
        rw [e1, show h + 1 + W2.length = s0 + W.length by omega]
    | true =>
      refine .cond (b := false) (by show AV.bool (!decide (cmpS x.mod w.mod < 0)) = _; rw [cmpS_lt]; exact congrArg (fun b => AV.bool (!b)) hc) ?_
      refine gw 220 [] ((14, iN s0) :: (15, iN h) :: smE n a m (m + 1)) (dB D) trivial (by kernel_rfl) ?_
      refine ⟨W1.length, by omega, V1, W1, w :: W2 ++ V2, rfl, by rw [hVV, hW]; simp, hV1, fun v hv => ?_, ?_⟩
      · rcases List.mem_append.1 hv with hv | hv
        · exact high_lt O hsW hc v hv
        · exact hV2 v hv
      · rw [hs, show s0 + W1.length = h by omega]
  · refine .condF hlt rfl (.exit ?_)
    simp only [↓reduceIte]
    have hW0 : W = [] := List.length_eq_zero_iff.1 (by omega)
    subst hW0
    simp only [List.length_nil, Nat.add_zero] at hl
    have hD0 : D = P ++ V1 ++ V2.take V2.length ++ x :: (V2.drop V2.length ++ Q) := by rw [← hD, hVV]; simp
    rw [hD0]
    refine .seq (.seq (gw 220 [] ((17, iN m) :: (14, iN (a + V1.length)) :: smE n a m (m + 1)) (dB (P ++ V1 ++ V2.take V2.length ++ x :: (V2.drop V2.length ++ Q))) trivial (by kernel_rfl) ?_))
    refine .block (.loop (fun k s => ∃ t, k = t ∧ t ≤ V2.length ∧ s = ⟨sp 220 ((17, iN (a + V1.length + t)) :: (14, iN (a + V1.length)) :: smE n a m (m + 1)), dB (P ++ V1 ++ V2.take t ++ x :: (V2.drop t ++ Q)), 0⟩) V2.length ⟨V2.length, rfl, Nat.le_refl _, by rw [show a + V1.length + V2.length = m by omega]⟩ ?_)
    rintro t s ⟨t', hk, ht, rfl⟩
    subst hk
    refine .seq (.seq (gw 220 [(2, hBin 1 (iN (a + V1.length + t)) (iN (a + V1.length)) (.bool (decide (a + V1.length < a + V1.length + t))))] ((110, .bool (decide (a + V1.length < a + V1.length + t))) :: (17, iN (a + V1.length + t)) :: (14, iN (a + V1.length)) :: smE n a m (m + 1)) (dB (P ++ V1 ++ V2.take t ++ x :: (V2.drop t ++ Q)))
      ⟨good_bin (gtrB rfl), trivial⟩ (by kernel_rfl) ?_))
    by_cases hlt2 : a + V1.length < a + V1.length + t
    · refine .condT hlt2 rfl (.skip ?_)
      obtain ⟨r, rfl⟩ : ∃ r, t = r + 1 := ⟨t - 1, by omega⟩
      obtain ⟨y, hy⟩ : ∃ y, V2[r]? = some y := ⟨_, List.getElem?_eq_getElem (by omega)⟩
      obtain ⟨hr, hry⟩ := List.getElem?_eq_some_iff.1 hy
      have hL : (P ++ V1 ++ V2.take r).length = a + V1.length + r := by rw [List.length_append, List.length_append, List.length_take, Nat.min_eq_left (by omega), ha]
      have hE1 : P ++ V1 ++ V2.take (r + 1) ++ x :: (V2.drop (r + 1) ++ Q) = (P ++ V1 ++ V2.take r) ++ y :: x :: (V2.drop (r + 1) ++ Q) := by
        rw [List.take_add_one, hy]; simp only [Option.toList_some, List.append_assoc, List.cons_append, List.nil_append]
      have hE2 : (P ++ V1 ++ V2.take r) ++ x :: y :: (V2.drop (r + 1) ++ Q) = P ++ V1 ++ V2.take r ++ x :: (V2.drop r ++ Q) := by
        rw [List.drop_eq_getElem_cons hr, hry]; rfl
      have hsw := swapL (L := P ++ V1 ++ V2.take r) (R := V2.drop (r + 1) ++ Q) (x := x) (y := y) hL
      rw [hE2, ← hE1] at hsw
      have hgx2 : (P ++ V1 ++ V2.take (r + 1) ++ x :: (V2.drop (r + 1) ++ Q))[a + V1.length + (r + 1)]? = some x := getL (by rw [List.length_append, List.length_append, List.length_take, Nat.min_eq_left (by omega), ha])
      have hgy2 : (P ++ V1 ++ V2.take (r + 1) ++ x :: (V2.drop (r + 1) ++ Q))[a + V1.length + r]? = some y := by rw [hE1]; exact getL hL
      have hDl : (P ++ V1 ++ V2.take (r + 1) ++ x :: (V2.drop (r + 1) ++ Q)).length = n := by
        simp only [List.length_append, List.length_take, List.length_cons, List.length_drop]
        omega
      generalize hE : P ++ V1 ++ V2.take (r + 1) ++ x :: (V2.drop (r + 1) ++ Q) = E at *
      generalize hk1 : a + V1.length + (r + 1) = k1 at *
      have hk2 : a + V1.length + r = k1 - 1 := by omega
      have hk3 : a + V1.length + r + 1 = k1 := by omega
      rw [hk2] at hsw
      rw [hk2] at hgy2
      refine .seq (.block (gw 220 [(4, hBin 1 (iN k1) (iN 1) (iN (k1 - 1))), (7, hBin 1 (iN k1) (iN 1) (iN (k1 - 1))), (8, hIdxS 1 0 n n false 4 ((k1 - 1 : Nat) : Int) (k1 - 1)), (9, hLd 1 0 (encL encObj E) 43 ((k1 - 1) * 4) (encObj y)),
          (12, hIdxS 1 0 n n false 4 k1 k1), (13, hLd 1 0 (encL encObj E) 43 (k1 * 4) (encObj x)), (14, hIdxS 1 0 n n false 4 k1 k1), (15, hSt 1 0 (encL encObj E) 43 (k1 * 4) (encObj y) (encL encObj (E.set k1 y))),
          (16, hIdxS 1 0 n n false 4 ((k1 - 1 : Nat) : Int) (k1 - 1)), (17, hSt 1 0 (encL encObj (E.set k1 y)) 43 ((k1 - 1) * 4) (encObj x) (encL encObj ((E.set k1 y).set (k1 - 1) x)))]
        ((17, iN k1) :: (14, iN (a + V1.length)) :: smE n a m (m + 1)) (dB ((E.set k1 y).set (k1 - 1) x))
        ⟨good_bin (subOne (by omega) (by omega)), good_bin (subOne (by omega) (by omega)), objIdx (by omega), objLd hgy2, objIdx (by omega), objLd hgx2, objIdx (by omega), objSt (by omega), objIdx (by omega), objSt (by rw [List.length_set]; omega), trivial⟩ (by kernel_rfl) ?_))
      rw [hsw]
      refine gw 220 [(1, hBin 1 (iN k1) (iN 1) (iN (k1 - 1)))] ((17, iN (k1 - 1)) :: (14, iN (a + V1.length)) :: smE n a m (m + 1)) (dB (P ++ V1 ++ V2.take r ++ x :: (V2.drop r ++ Q))) ⟨good_bin (subOne (by omega) (by omega)), trivial⟩ (by kernel_rfl) ?_
      exact ⟨r, by omega, r, rfl, by omega, by rw [hk2]⟩
    · refine .condF hlt2 rfl (.exit ?_)
      simp only [↓reduceIte]
      have ht2 : t = 0 := by omega
      subst ht2
      refine .ret ⟨.inr rfl, Nat.zero_le _, ?_, [], rfl, rfl⟩
      rw [hVV, List.append_nil, ← one_right O (by rw [hVV, List.append_nil] at hU; exact hU) hV1 hV2]
      simp
end Go.Proofs.Ytfihpghhngfelaa.Lk
