/- slices.insertionSortCmpFunc. Conditions: none (definitions and lemmas). -/
import Derived.Test.YtfihpghhngfelaaLkD
import Derived.Test.YtfihpghhngfelaaLkP
import Derived.Test.YtfihpghhngfelaaEvV
namespace Go.Proofs.Ytfihpghhngfelaa.Lk
open Go Go.Proofs Go.Proofs.Ytfihpghhngfelaa.Ev
set_option maxRecDepth 100000
set_option linter.unusedVariables false
set_option linter.unusedSimpArgs false

def oLt (x y : DObj) : Bool := strLt x.mod y.mod
theorem cmpS_lt (a b : ByteArray) : decide (cmpS a b < 0) = strLt a b := by
  unfold cmpS
  cases strLt a b
  · simp only [Bool.false_eq_true, if_false]
    split <;> rfl
  · rfl
theorem subOne {t : TypeId} {j : Nat} (h1 : 1 ≤ j) (h2 : j ≤ 4294967295) : binA Try.prog E0 .sub t (.int .i64 j) (.int .i64 1) = some (.int .i64 ((j - 1 : Nat) : Int)) := by
  have : IntKind.i64.wrap ((j : Int) - 1) = ((j - 1 : Nat) : Int) := by rw [wrap64_id (by omega) (by omega)]; omega
  show some (AV.int .i64 (IntKind.i64.wrap ((j : Int) - 1))) = _
  rw [this]
theorem gtrT {t : TypeId} {a b : Nat} (h : b < a) : binA Try.prog E0 .gtr t (.int .i64 a) (.int .i64 b) = some (.bool true) := by
  show some (AV.bool (decide ((a : Int) > (b : Int)))) = _
  rw [decide_eq_true (by omega)]
theorem gtrF {t : TypeId} {a b : Nat} (h : a ≤ b) : binA Try.prog E0 .gtr t (.int .i64 a) (.int .i64 b) = some (.bool false) := by
  show some (AV.bool (decide ((a : Int) > (b : Int)))) = _
  rw [decide_eq_false (by omega)]
theorem objIdx {Φ : Orc} {n len lo : Nat} {ex : Bool} {j : Nat} {x y : Operand} (hj : j < len) : Hint.Good Try.prog E0 Φ (hIdxS n 0 len lo ex 4 j j) (.indexAddr 25 x y) := good_idxS T25.hu T25.hs rfl hj
theorem objLd {Φ : Orc} {n : Nat} {d : List DObj} {j : Nat} {o : DObj} {x : Operand} (h : d[j]? = some o) : Hint.Good Try.prog E0 Φ (hLd n 0 (encL encObj d) 43 (j * 4) (encObj o)) (.load 43 x) :=
  good_ld (by kernel_rfl) (by kernel_rfl) T25.hs (kObj.get h) rfl
theorem objSt {Φ : Orc} {n : Nat} {d : List DObj} {j : Nat} {o : DObj} {x y : Operand} (h : j < d.length) : Hint.Good Try.prog E0 Φ (hSt n 0 (encL encObj d) 43 (j * 4) (encObj o) (encL encObj (d.set j o))) (.store 43 x y) :=
  good_st T25.hs rfl (by have : (j + 1) * 4 ≤ d.length * 4 := Nat.mul_le_mul_right _ h; rw [kObj.length]; omega) (kObj.leaf o) (kObj.set h o)
theorem ordOrc (x y : DObj) : OrcOk Try.prog (pureOrc 38 [.agg (encObj x), .agg (encObj y)] (.int .i64 (cmpS x.mod y.mod))) := pureOrc_ok (ordCmp_ok x y) (.cons (.agg (imObj x)) (.cons (.agg (imObj y)) .nil)) .int

abbrev dB (d : List DObj) : Heap := [.cells (encL encObj d) 43]
abbrev dS (n : Nat) : AV := .sl 0 0 n n false 4
abbrev cF : AV := .fn 38 [] []
def isEnv (n a b i j : Nat) : List (Nat × AV) := [(0, dS n), (1, .int .i64 a), (2, .int .i64 b), (3, cF), (8, .int .i64 i), (9, .int .i64 j)]
/-- The inner loop: x goes down to its place. -/
theorem is_inner {h0 : Heap} {n a b i : Nat} (hn : n ≤ 1048576) (P Q : List DObj) (hP : P.length = a) (S : List DObj) (hS : Srt oLt S) (x : DObj) (O : Ord oLt) (hlen : a + S.length + 1 + Q.length = n) {c : Code} {R : Ex → St → Prop}
    (round : ∀ j A B, A ++ B = S → j = a + A.length → (∀ z ∈ B, oLt x z = true) → CodeB Try.prog h0 c ⟨sp 53 (isEnv n a b i j), dB (P ++ A ++ x :: (B ++ Q)), 0⟩ fun e s' => match e with
      | .normal => ∃ A' y, A = A' ++ [y] ∧ s' = ⟨sp 53 (isEnv n a b i (j - 1)), dB (P ++ A' ++ x :: (y :: B ++ Q)), 0⟩ ∧ oLt x y = true
      | e => R e s') : CodeB Try.prog h0 (.loop c) ⟨sp 53 (isEnv n a b i (a + S.length)), dB (P ++ S ++ x :: Q), 0⟩ R := by
  refine .loop (fun m s => ∃ j A B, m = A.length ∧ A ++ B = S ∧ j = a + A.length ∧ (∀ z ∈ B, oLt x z = true) ∧ s = ⟨sp 53 (isEnv n a b i j), dB (P ++ A ++ x :: (B ++ Q)), 0⟩) S.length ⟨_, S, [], rfl, by simp, rfl, by simp, rfl⟩ ?_
  rintro m s ⟨j, A, B, rfl, hAB, hj, hB, rfl⟩
  refine (round j A B hAB hj hB).mono ?_
  intro e s' h
  cases e with
  | normal =>
    obtain ⟨A', y, rfl, rfl, hy⟩ := h
    refine ⟨A'.length, by simp, j - 1, A', y :: B, rfl, by simpa using hAB, by simp at hj; omega, fun z hz => ?_, rfl⟩
    rcases List.mem_cons.1 hz with rfl | hz
    · exact hy
    · exact hB z hz
  | exit id => exact h
  | ret => exact h
theorem getL {L R : List DObj} {x : DObj} {j : Nat} (h : L.length = j) : (L ++ x :: R)[j]? = some x := by subst h; simp
theorem swapL {L R : List DObj} {x y : DObj} {j : Nat} (h : L.length = j) : ((L ++ y :: x :: R).set (j + 1) y).set j x = L ++ x :: y :: R := by
  subst h
  have h1 : (L ++ y :: x :: R).set (L.length + 1) y = L ++ y :: y :: R := by
    rw [List.set_append_right _ _ (by omega)]
    simp
  rw [h1, List.set_append_right _ _ (Nat.le_refl _)]
  simp

theorem is_start (d0 : List DObj) (a : Nat) : d0.take a ++ st oLt ((d0.take (a + 1)).drop a) ++ d0.drop (a + 1) = d0 := by
  by_cases h : a < d0.length
  · have h1 : (d0.take (a + 1)).drop a = [d0[a]] := by
      rw [List.take_add_one, List.getElem?_eq_getElem h, List.drop_append_of_le_length (by rw [List.length_take, Nat.min_eq_left (by omega)]; omega), List.drop_eq_nil_of_le (by rw [List.length_take]; omega)]
      rfl
    rw [h1]
    show d0.take a ++ [d0[a]] ++ d0.drop (a + 1) = d0
    simp
  · have h1 : (d0.take (a + 1)).drop a = [] := List.drop_eq_nil_of_le (by rw [List.length_take]; omega)
    have h2 : d0.drop (a + 1) = [] := List.drop_eq_nil_of_le (by omega)
    rw [h1, h2, List.take_of_length_le (by omega)]
    show d0 ++ [] ++ [] = d0
    simp
theorem isort_ok (O : Ord oLt) (d0 : List DObj) (hn : d0.length ≤ 1048576) (a b : Nat) (hab : a ≤ b) (hb : b ≤ d0.length) :
    OrcAt Try.prog 58 [dS d0.length, .int .i64 a, .int .i64 b, cF] (dB d0) (.tup []) (dB (d0.take a ++ st oLt ((d0.take b).drop a) ++ d0.drop b)) 0 := by
  refine OrcAt.of_body Try.func58 rfl rfl (Nat.zero_le _) (fun _ h => by omega) (Nat.le_refl _) ?_
  refine .lower (lw := 0) (Nat.zero_le _) ?_
  refine .seq (gw 53 [] [(0, dS d0.length), (1, .int .i64 a), (2, .int .i64 b), (3, cF), (8, .int .i64 (IntKind.i64.wrap ((a : Int) + 1)))] (dB d0) trivial (by kernel_rfl) ?_)
  rw [incr (by omega)]
  refine .block (.loop (fun m s => ∃ i, m = b - i ∧ a + 1 ≤ i ∧ (i ≤ b ∨ i = a + 1) ∧ s = ⟨sp 53 [(0, dS d0.length), (1, .int .i64 a), (2, .int .i64 b), (3, cF), (8, .int .i64 i)], dB (d0.take a ++ st oLt ((d0.take i).drop a) ++ d0.drop i), 0⟩) (b - (a + 1)) ⟨a + 1, rfl, Nat.le_refl _, .inr rfl, by rw [is_start]⟩ ?_)
  rintro m s ⟨i, rfl, hai, hib, rfl⟩
  refine .seq (.seq (gw 53 [] [(0, dS d0.length), (1, .int .i64 a), (2, .int .i64 b), (3, cF), (8, .int .i64 i), (14, .bool (decide ((i : Int) < (b : Int))))] (dB (d0.take a ++ st oLt ((d0.take i).drop a) ++ d0.drop i)) trivial (by kernel_rfl) ?_))
  by_cases hlt : (i : Int) < (b : Int)
  · refine .condT hlt rfl (.skip ?_)
    obtain ⟨x, hx⟩ : ∃ x, d0[i]? = some x := ⟨_, List.getElem?_eq_getElem (by omega)⟩
    have hdr : d0.drop i = x :: d0.drop (i + 1) := by
      obtain ⟨h1, rfl⟩ := List.getElem?_eq_some_iff.1 hx
      exact List.drop_eq_getElem_cons h1
    have hsl : (st oLt ((d0.take i).drop a)).length = i - a := by rw [st_length, List.length_drop, List.length_take, Nat.min_eq_left (by omega)]
    refine .seq (.block (.seq (gw 53 [] (isEnv d0.length a b i (a + (st oLt ((d0.take i).drop a)).length)) (dB (d0.take a ++ st oLt ((d0.take i).drop a) ++ x :: d0.drop (i + 1))) trivial (by rw [hsl, show a + (i - a) = i by omega, hdr]; kernel_rfl) ?_)))
    refine .block (is_inner hn (d0.take a) (d0.drop (i + 1)) (by rw [List.length_take, Nat.min_eq_left (by omega)]) (st oLt ((d0.take i).drop a)) (st_srt O _) x O (by rw [hsl, List.length_drop]; omega) ?_)
    intro j A B hAB hj hB
    have hAl : A.length + B.length = i - a := by rw [← List.length_append, hAB, hsl]
    have hL : (d0.take a ++ A).length = j := by rw [List.length_append, List.length_take, Nat.min_eq_left (by omega)]; omega
    have hBQ : (B ++ d0.drop (i + 1)).length = b - 0 - 0 - b + (B.length + (d0.length - (i + 1))) := by rw [List.length_append, List.length_drop]; omega
    have hdl : (d0.take a ++ A ++ x :: (B ++ d0.drop (i + 1))).length = d0.length := by rw [List.length_append, hL, List.length_cons, hBQ]; omega
    have hexit : ∀ {A : List DObj}, A ++ B = st oLt ((d0.take i).drop a) → (∀ z ∈ A, oLt x z = false) → d0.take a ++ A ++ x :: (B ++ d0.drop (i + 1)) = d0.take a ++ st oLt ((d0.take (i + 1)).drop a) ++ d0.drop (i + 1) := by
      intro A hAB hA
      have h1 : (d0.take (i + 1)).drop a = (d0.take i).drop a ++ [x] := by
        rw [List.take_add_one, hx, List.drop_append_of_le_length (by rw [List.length_take, Nat.min_eq_left (by omega)]; omega)]
        rfl
      rw [h1, st_snoc, ← hAB, ins_eq hA hB]
      simp
    rcases List.eq_nil_or_concat A with rfl | ⟨A', y, hAy⟩
    · -- at the front
      have hja : a = j := by simpa using hj.symm
      subst hja
      refine .seq (.seq (gw 53 [(2, hBin 1 (.int .i64 a) (.int .i64 a) (.bool false))] ((34, .bool false) :: isEnv d0.length a b i a) (dB (d0.take a ++ [] ++ x :: (B ++ d0.drop (i + 1)))) ⟨good_bin (gtrF (Nat.le_refl _)), trivial⟩ (by kernel_rfl) ?_))
      refine .cond (b := false) rfl (.exit ?_)
      simp only [↓reduceIte]
      rw [hexit hAB (by simp)]
      refine gw 53 [] [(0, dS d0.length), (1, .int .i64 a), (2, .int .i64 b), (3, cF), (8, .int .i64 (IntKind.i64.wrap ((i : Int) + 1)))] (dB (d0.take a ++ st oLt ((d0.take (i + 1)).drop a) ++ d0.drop (i + 1))) trivial (by kernel_rfl) ?_
      exact ⟨b - (i + 1), by omega, i + 1, rfl, by omega, .inl (by omega), by rw [incr (by omega)]⟩
    · rw [List.concat_eq_append] at hAy
      subst hAy
      have hL' : (d0.take a ++ A').length = j - 1 := by simp only [List.length_append, List.length_singleton] at hL ⊢; omega
      have hj1 : a < j := by simp only [List.length_append, List.length_singleton] at hj; omega
      have hd : d0.take a ++ (A' ++ [y]) ++ x :: (B ++ d0.drop (i + 1)) = (d0.take a ++ A') ++ y :: x :: (B ++ d0.drop (i + 1)) := by simp
      have hjn : j < d0.length := by rw [← hdl, List.length_append, hL, List.length_cons]; omega
      generalize hD : d0.take a ++ (A' ++ [y]) ++ x :: (B ++ d0.drop (i + 1)) = D at hd hdl
      have hDx : D[j]? = some x := by rw [← hD]; exact getL hL
      have hDy : D[j - 1]? = some y := by rw [hd]; exact getL hL'
      refine .seq (.seq (.go E0_ok (ordOrc x y) mix0 53 [(2, hBin 1 (.int .i64 j) (.int .i64 a) (.bool true)), (7, hIdxS 1 0 d0.length d0.length false 4 j j), (8, hLd 1 0 (encL encObj D) 43 (j * 4) (encObj x)), (11, hBin 1 (.int .i64 j) (.int .i64 1) (.int .i64 ((j - 1 : Nat) : Int))),
          (12, hIdxS 1 0 d0.length d0.length false 4 ((j - 1 : Nat) : Int) (j - 1)), (13, hLd 1 0 (encL encObj D) 43 ((j - 1) * 4) (encObj y)), (14, hCall 1 38 [.agg (encObj x), .agg (encObj y)] (.int .i64 (cmpS x.mod y.mod)))]
        ((34, .bool (decide (cmpS x.mod y.mod < 0))) :: isEnv d0.length a b i j) (dB D) 0
        ⟨good_bin (gtrT hj1), objIdx hjn, objLd hDx, good_bin (subOne (by omega) (by omega)), objIdx (by omega), objLd hDy, good_call rfl rfl, trivial⟩ (by kernel_rfl) ?_))
      cases hc : oLt x y with
      | false =>
        refine .cond (b := false) (by show AV.bool (decide (cmpS x.mod y.mod < 0)) = _; rw [cmpS_lt]; exact congrArg _ hc) (.exit ?_)
        simp only [↓reduceIte]
        rw [← hD, hexit hAB (srt_last O (by have := st_srt O ((d0.take i).drop a); rw [← hAB] at this; exact (List.pairwise_append.1 this).1) hc)]
        refine gw 53 [] [(0, dS d0.length), (1, .int .i64 a), (2, .int .i64 b), (3, cF), (8, .int .i64 (IntKind.i64.wrap ((i : Int) + 1)))] (dB (d0.take a ++ st oLt ((d0.take (i + 1)).drop a) ++ d0.drop (i + 1))) trivial (by kernel_rfl) ?_
        exact ⟨b - (i + 1), by omega, i + 1, rfl, by omega, .inl (by omega), by rw [incr (by omega)]⟩
      | true =>
        refine .cond (b := true) (by show AV.bool (decide (cmpS x.mod y.mod < 0)) = _; rw [cmpS_lt]; exact congrArg _ hc) (.skip ?_)
        refine .seq (.block (gw 53 [(4, hBin 1 (.int .i64 j) (.int .i64 1) (.int .i64 ((j - 1 : Nat) : Int))), (7, hBin 1 (.int .i64 j) (.int .i64 1) (.int .i64 ((j - 1 : Nat) : Int))), (8, hIdxS 1 0 d0.length d0.length false 4 ((j - 1 : Nat) : Int) (j - 1)), (9, hLd 1 0 (encL encObj D) 43 ((j - 1) * 4) (encObj y)),
            (12, hIdxS 1 0 d0.length d0.length false 4 j j), (13, hLd 1 0 (encL encObj D) 43 (j * 4) (encObj x)), (14, hIdxS 1 0 d0.length d0.length false 4 j j), (15, hSt 1 0 (encL encObj D) 43 (j * 4) (encObj y) (encL encObj (D.set j y))),
            (16, hIdxS 1 0 d0.length d0.length false 4 ((j - 1 : Nat) : Int) (j - 1)), (17, hSt 1 0 (encL encObj (D.set j y)) 43 ((j - 1) * 4) (encObj x) (encL encObj ((D.set j y).set (j - 1) x)))]
          (isEnv d0.length a b i j) (dB ((D.set j y).set (j - 1) x))
          ⟨good_bin (subOne (by omega) (by omega)), good_bin (subOne (by omega) (by omega)), objIdx (by omega), objLd hDy, objIdx hjn, objLd hDx, objIdx hjn, objSt (by omega), objIdx (by omega), objSt (by rw [List.length_set]; omega), trivial⟩ (by kernel_rfl) ?_))
        refine gw 53 [(1, hBin 1 (.int .i64 j) (.int .i64 1) (.int .i64 ((j - 1 : Nat) : Int)))] (isEnv d0.length a b i (j - 1)) (dB ((D.set j y).set (j - 1) x)) ⟨good_bin (subOne (by omega) (by omega)), trivial⟩ (by kernel_rfl) ?_
        refine ⟨A', y, rfl, ?_, hc⟩
        have hsw := swapL (L := d0.take a ++ A') (R := B ++ d0.drop (i + 1)) (x := x) (y := y) hL'
        rw [show j - 1 + 1 = j by omega] at hsw
        rw [hd, hsw]
        rfl
  · refine .condF hlt rfl (.exit ?_)
    simp only [↓reduceIte]
    refine ⟨.inl trivial, Nat.zero_le _, ?_, [], rfl, rfl⟩
    rcases hib with hib | hib
    · rw [show i = b by omega]
    · subst hib
      rcases Nat.lt_or_ge a b with h | h
      · rw [show a + 1 = b by omega]
      · obtain rfl : a = b := by omega
        rw [is_start, List.drop_eq_nil_of_le (by rw [List.length_take]; omega)]
        show dB d0 = dB (d0.take a ++ [] ++ d0.drop a)
        simp
end Go.Proofs.Ytfihpghhngfelaa.Lk
