/- symMergeCmpFunc, one element on the left. Conditions: none (definitions and lemmas). -/
import Derived.Test.YtfihpghhngfelaaLkI
namespace Go.Proofs.Ytfihpghhngfelaa.Lk
open Go Go.Proofs Go.Proofs.Ytfihpghhngfelaa.Ev
set_option maxRecDepth 100000
set_option linter.unusedVariables false
set_option linter.unusedSimpArgs false
theorem eqlT {t : TypeId} {i j : Nat} (h : i = j) : binA Try.prog E0 .eql t (.int .i64 i) (.int .i64 j) = some (.bool true) := by
  show some (AV.bool (((i : Int) == (j : Int)))) = _
  subst h; simp
theorem lssB {t : TypeId} {i j : Nat} {b : Bool} (h : decide (i < j) = b) : binA Try.prog E0 .lss t (.int .i64 i) (.int .i64 j) = some (.bool b) := by
  show some (AV.bool (decide ((i : Int) < (j : Int)))) = _
  subst h
  congr 2
  by_cases hx : i < j
  · rw [decide_eq_true hx, decide_eq_true (by omega)]
  · rw [decide_eq_false hx, decide_eq_false (by omega)]
def smE (n a m b : Nat) : List (Nat × AV) := [(0, dS n), (1, .int .i64 a), (2, .int .i64 m), (3, .int .i64 b), (4, cF)]
theorem symA (P V Q : List DObj) (x : DObj) (hV : Srt oLt V) {n a b : Nat} (ha : P.length = a) (hb : a + 1 + V.length = b) (hn : (P ++ [x] ++ V ++ Q).length = n) (hn2 : n ≤ 1048576) :
    OrcAt Try.prog 59 [dS n, iN a, iN (a + 1), iN b, cF] (dB (P ++ [x] ++ V ++ Q)) (.tup []) (dB (P ++ st oLt ([x] ++ V) ++ Q)) 0 := by
  have O := oOrd
  have hlen : a + 1 + V.length + Q.length = n := by rw [← hn]; simp only [List.length_append, List.length_singleton]; omega
  generalize hD : P ++ [x] ++ V ++ Q = D at hn
  have hgx : D[a]? = some x := by rw [← hD, List.append_assoc, List.append_assoc]; exact getL ha
  refine OrcAt.of_body Try.func59 rfl rfl (Nat.zero_le _) (fun _ h => by omega) (Nat.le_refl _) ?_
  refine .lower (lw := 0) (Nat.zero_le _) ?_
  refine .seq (.seq (gw 220 [(2, hBin 1 (iN (a + 1)) (iN a) (iN 1)), (3, hBin 1 (iN 1) (iN 1) (.bool true))] ((28, .bool true) :: smE n a (a + 1) b) (dB D) ⟨good_bin (by rw [subN (by omega) (by omega), show a + 1 - a = 1 by omega]), good_bin (eqlT rfl), trivial⟩ (by kernel_rfl) ?_))
  refine .cond (b := true) rfl (.seq (gw 220 [] ((10, iN (a + 1)) :: smE n a (a + 1) b) (dB D) trivial (by kernel_rfl) ?_))
  refine .seq (gw 220 [] ((10, iN (a + 1)) :: (11, iN b) :: smE n a (a + 1) b) (dB D) trivial (by kernel_rfl) ?_)
  refine .seq (.block (.loop (fun k s => ∃ V1 W V2, k = W.length ∧ V = V1 ++ W ++ V2 ∧ (∀ v ∈ V1, oLt v x = true) ∧ (∀ v ∈ V2, oLt v x = false) ∧ s = ⟨sp 220 ((10, iN (a + 1 + V1.length)) :: (11, iN (a + 1 + V1.length + W.length)) :: smE n a (a + 1) b), dB D, 0⟩) V.length
    ⟨[], V, [], rfl, by simp, by simp, by simp, by rw [List.length_nil, Nat.add_zero, hb]⟩ ?_))
  rintro k s ⟨V1, W, V2, rfl, hVV, hV1, hV2, rfl⟩
  have hl : V1.length + W.length + V2.length = V.length := by rw [hVV]; simp only [List.length_append]
  refine .seq (.seq (gw 220 [(2, hBin 1 (iN (a + 1 + V1.length)) (iN (a + 1 + V1.length + W.length)) (.bool (decide (a + 1 + V1.length < a + 1 + V1.length + W.length))))] ((33, .bool (decide (a + 1 + V1.length < a + 1 + V1.length + W.length))) :: (10, iN (a + 1 + V1.length)) :: (11, iN (a + 1 + V1.length + W.length)) :: smE n a (a + 1) b) (dB D) ⟨good_bin (lssB rfl), trivial⟩ (by kernel_rfl) ?_))
  by_cases hlt : a + 1 + V1.length < a + 1 + V1.length + W.length
  · refine .condT hlt rfl (.skip ?_)
    generalize hs : a + 1 + V1.length = s0 at *
    generalize hh : (s0 + (s0 + W.length)) / 2 = h
    have hh1 : s0 ≤ h := by omega
    have hh2 : h < s0 + W.length := by omega
    obtain ⟨W1, w, W2, hW, hW1⟩ := cut_at (W := W) (h := h - s0) (by omega)
    have hWl : W.length = W1.length + 1 + W2.length := by rw [hW]; simp only [List.length_append, List.length_cons]; omega
    have hsW : Srt oLt (W1 ++ w :: W2) := by
      rw [hVV, hW] at hV
      exact (List.pairwise_append.1 (List.pairwise_append.1 hV).1).2.1
    have hDw : D[h]? = some w := by
      have : D = (P ++ [x] ++ V1 ++ W1) ++ w :: (W2 ++ V2 ++ Q) := by rw [← hD, hVV, hW]; simp
      rw [this]
      exact getL (by simp only [List.length_append, List.length_singleton]; omega)
    refine .block (.seq (gw 220 [(2, hBin 1 (iN s0) (iN (s0 + W.length)) (iN (s0 + (s0 + W.length)))), (3, hCv 1 (iN (s0 + (s0 + W.length))) (.int .u64 ((s0 + (s0 + W.length) : Nat) : Int))), (4, hBin 1 (.int .u64 ((s0 + (s0 + W.length) : Nat) : Int)) (.int .u64 1) (.int .u64 (h : Int))), (5, hCv 1 (.int .u64 (h : Int)) (iN h))]
      ((12, iN h) :: (10, iN s0) :: (11, iN (s0 + W.length)) :: smE n a (a + 1) b) (dB D) ⟨good_bin (addN (by omega)), good_cv (cvU (by omega)), good_bin (by rw [shr1, hh]), good_cv (cvI (by omega)), trivial⟩ (by kernel_rfl) ?_))
    refine .seq (.go E0_ok (ordOrc w x) mix0 220 [(3, hIdxS 1 0 n n false 4 h h), (4, hLd 1 0 (encL encObj D) 43 (h * 4) (encObj w)), (7, hIdxS 1 0 n n false 4 a a), (8, hLd 1 0 (encL encObj D) 43 (a * 4) (encObj x)), (9, hCall 1 38 [.agg (encObj w), .agg (encObj x)] (.int .i64 (cmpS w.mod x.mod)))]
      ((50, .bool (decide (cmpS w.mod x.mod < 0))) :: (12, iN h) :: (10, iN s0) :: (11, iN (s0 + W.length)) :: smE n a (a + 1) b) (dB D) 0 ⟨objIdx (by omega), objLd hDw, objIdx (by omega), objLd hgx, good_call rfl rfl, trivial⟩ (by kernel_rfl) ?_)
    cases hc : oLt w x with
    | true =>
      refine .cond (b := true) (by show AV.bool (decide (cmpS w.mod x.mod < 0)) = _; rw [cmpS_lt]; exact congrArg _ hc) ?_
      refine gw 220 [(1, hBin 1 (iN h) (iN 1) (iN (h + 1)))] ((10, iN (h + 1)) :: (11, iN (s0 + W.length)) :: smE n a (a + 1) b) (dB D) ⟨good_bin (addN (by omega)), trivial⟩ (by kernel_rfl) ?_
      refine ⟨W2.length, by omega, V1 ++ (W1 ++ [w]), W2, V2, rfl, by rw [hVV, hW]; simp, fun v hv => ?_, hV2, ?_⟩
      · rcases List.mem_append.1 hv with hv | hv
        · exact hV1 v hv
        · exact low_lt O hsW hc v hv
      · have e1 : a + 1 + (V1 ++ (W1 ++ [w])).length = h + 1 := by simp only [List.length_append, List.length_singleton]; omega
        rw [e1, show h + 1 + W2.length = s0 + W.length by omega]
    | false =>
      refine .cond (b := false) (by show AV.bool (decide (cmpS w.mod x.mod < 0)) = _; rw [cmpS_lt]; exact congrArg _ hc) ?_
      refine gw 220 [] ((10, iN s0) :: (11, iN h) :: smE n a (a + 1) b) (dB D) trivial (by kernel_rfl) ?_
      refine ⟨W1.length, by omega, V1, W1, w :: W2 ++ V2, rfl, by rw [hVV, hW]; simp, hV1, fun v hv => ?_, ?_⟩
      · rcases List.mem_append.1 hv with hv | hv
        · exact high_nlt O hsW hc v hv
        · exact hV2 v hv
      · rw [hs, show s0 + W1.length = h by omega]
  · refine .condF hlt rfl (.exit ?_)
    simp only [↓reduceIte]
    have hW0 : W = [] := List.length_eq_zero_iff.1 (by omega)
    subst hW0
    have hsh : ∀ (t : Nat) (y : DObj), V1[t]? = some y → (((P ++ V1.take t ++ x :: (V1.drop t ++ (V2 ++ Q))).set (a + t) y).set (a + t + 1) x) = P ++ V1.take (t + 1) ++ x :: (V1.drop (t + 1) ++ (V2 ++ Q)) := by
      intro t y hy
      obtain ⟨h1, rfl⟩ := List.getElem?_eq_some_iff.1 hy
      have hL : (P ++ V1.take t).length = a + t := by rw [List.length_append, List.length_take, Nat.min_eq_left (by omega), ha]
      rw [setL hL, List.drop_eq_getElem_cons h1, List.take_add_one, List.getElem?_eq_getElem h1]
      have e1 : P ++ V1.take t ++ V1[t] :: (V1[t] :: V1.drop (t + 1) ++ (V2 ++ Q)) = (P ++ V1.take t ++ [V1[t]]) ++ V1[t] :: (V1.drop (t + 1) ++ (V2 ++ Q)) := by rw [List.append_assoc (P ++ V1.take t) [V1[t]]]; rfl
      rw [e1, setL (by rw [List.length_append, hL]; rfl)]
      simp only [Option.toList_some, List.append_assoc]
    have hD0 : D = P ++ V1.take 0 ++ x :: (V1.drop 0 ++ (V2 ++ Q)) := by rw [← hD, hVV]; simp
    rw [hD0]
    refine .seq (.seq (gw 220 [] ((13, iN (a + 0)) :: (10, iN (a + 1 + V1.length)) :: smE n a (a + 1) b) (dB (P ++ V1.take 0 ++ x :: (V1.drop 0 ++ (V2 ++ Q)))) trivial (by kernel_rfl) ?_))
    refine .block (.loop (fun k s => ∃ t, k = V1.length - t ∧ t ≤ V1.length ∧ s = ⟨sp 220 ((13, iN (a + t)) :: (10, iN (a + 1 + V1.length)) :: smE n a (a + 1) b), dB (P ++ V1.take t ++ x :: (V1.drop t ++ (V2 ++ Q))), 0⟩) V1.length ⟨0, rfl, Nat.zero_le _, rfl⟩ ?_)
    rintro k s ⟨t, rfl, ht, rfl⟩
    refine .seq (.seq (gw 220 [(2, hBin 1 (iN (a + 1 + V1.length)) (iN 1) (iN (a + V1.length))), (3, hBin 1 (iN (a + t)) (iN (a + V1.length)) (.bool (decide (a + t < a + V1.length))))] ((58, .bool (decide (a + t < a + V1.length))) :: (13, iN (a + t)) :: (10, iN (a + 1 + V1.length)) :: smE n a (a + 1) b) (dB (P ++ V1.take t ++ x :: (V1.drop t ++ (V2 ++ Q))))
      ⟨good_bin (by rw [subN (by omega) (by omega), show a + 1 + V1.length - 1 = a + V1.length by omega]), good_bin (lssB rfl), trivial⟩ (by kernel_rfl) ?_))
    by_cases hlt2 : a + t < a + V1.length
    · refine .condT hlt2 rfl (.skip ?_)
      obtain ⟨y, hy⟩ : ∃ y, V1[t]? = some y := ⟨_, List.getElem?_eq_getElem (by omega)⟩
      have hL : (P ++ V1.take t).length = a + t := by rw [List.length_append, List.length_take, Nat.min_eq_left (by omega), ha]
      have hst := hsh t y hy
      have hgx2 : (P ++ V1.take t ++ x :: (V1.drop t ++ (V2 ++ Q)))[a + t]? = some x := getL hL
      have hgy2 : (P ++ V1.take t ++ x :: (V1.drop t ++ (V2 ++ Q)))[a + t + 1]? = some y := by
        obtain ⟨h1, rfl⟩ := List.getElem?_eq_some_iff.1 hy
        have e1 : P ++ V1.take t ++ x :: (V1.drop t ++ (V2 ++ Q)) = (P ++ V1.take t ++ [x]) ++ V1[t] :: (V1.drop (t + 1) ++ (V2 ++ Q)) := by rw [List.append_assoc (P ++ V1.take t) [x], List.drop_eq_getElem_cons h1]; rfl
        rw [e1]
        exact getL (by rw [List.length_append, hL]; rfl)
      have hDl : (P ++ V1.take t ++ x :: (V1.drop t ++ (V2 ++ Q))).length = n := by
        rw [List.length_append, hL, List.length_cons, List.length_append, List.length_append, List.length_drop]
        simp only [List.length_nil] at hl
        omega
      generalize hE : P ++ V1.take t ++ x :: (V1.drop t ++ (V2 ++ Q)) = E at *
      refine .seq (.block (gw 220 [(4, hBin 1 (iN (a + t)) (iN 1) (iN (a + t + 1))), (7, hBin 1 (iN (a + t)) (iN 1) (iN (a + t + 1))), (8, hIdxS 1 0 n n false 4 ((a + t + 1 : Nat) : Int) (a + t + 1)), (9, hLd 1 0 (encL encObj E) 43 ((a + t + 1) * 4) (encObj y)),
          (12, hIdxS 1 0 n n false 4 ((a + t : Nat) : Int) (a + t)), (13, hLd 1 0 (encL encObj E) 43 ((a + t) * 4) (encObj x)), (14, hIdxS 1 0 n n false 4 ((a + t : Nat) : Int) (a + t)), (15, hSt 1 0 (encL encObj E) 43 ((a + t) * 4) (encObj y) (encL encObj (E.set (a + t) y))),
          (16, hIdxS 1 0 n n false 4 ((a + t + 1 : Nat) : Int) (a + t + 1)), (17, hSt 1 0 (encL encObj (E.set (a + t) y)) 43 ((a + t + 1) * 4) (encObj x) (encL encObj ((E.set (a + t) y).set (a + t + 1) x)))]
        ((13, iN (a + t)) :: (10, iN (a + 1 + V1.length)) :: smE n a (a + 1) b) (dB ((E.set (a + t) y).set (a + t + 1) x))
        ⟨good_bin (addN (by omega)), good_bin (addN (by omega)), objIdx (by omega), objLd hgy2, objIdx (by omega), objLd hgx2, objIdx (by omega), objSt (by omega), objIdx (by omega), objSt (by rw [List.length_set]; omega), trivial⟩ (by kernel_rfl) ?_))
      rw [hst]
      refine gw 220 [(1, hBin 1 (iN (a + t)) (iN 1) (iN (a + t + 1)))] ((13, iN (a + (t + 1))) :: (10, iN (a + 1 + V1.length)) :: smE n a (a + 1) b) (dB (P ++ V1.take (t + 1) ++ x :: (V1.drop (t + 1) ++ (V2 ++ Q)))) ⟨good_bin (addN (by omega)), trivial⟩ (by kernel_rfl) ?_
      exact ⟨V1.length - (t + 1), by omega, t + 1, rfl, by omega, rfl⟩
    · refine .condF hlt2 rfl (.exit ?_)
      simp only [↓reduceIte]
      have ht2 : t = V1.length := by omega
      subst ht2
      refine .ret ⟨.inr rfl, Nat.zero_le _, ?_, [], rfl, rfl⟩
      rw [hVV, List.append_nil, ← one_left O (by rw [hVV, List.append_nil] at hV; exact hV) hV1 hV2]
      simp
end Go.Proofs.Ytfihpghhngfelaa.Lk
