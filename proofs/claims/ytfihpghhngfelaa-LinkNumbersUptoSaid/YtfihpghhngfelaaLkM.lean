/- symMergeCmpFunc, the general case. Conditions: none (definitions and lemmas). -/
import Derived.Test.YtfihpghhngfelaaLkL
namespace Go.Proofs.Ytfihpghhngfelaa.Lk
open Go Go.Proofs Go.Proofs.Ytfihpghhngfelaa.Ev
set_option maxRecDepth 100000
set_option linter.unusedVariables false
set_option linter.unusedSimpArgs false
/-- The claim of symMerge at a size. -/
def SymAt (N : Nat) : Prop := ∀ (P U V Q : List DObj) (n a m b : Nat), U.length + V.length ≤ N → U ≠ [] → V ≠ [] → Srt oLt U → Srt oLt V → P.length = a → a + U.length = m → m + V.length = b → (P ++ U ++ V ++ Q).length = n → n ≤ 1048576 →
    OrcAt Try.prog 59 [dS n, iN a, iN m, iN b, cF] (dB (P ++ U ++ V ++ Q)) (.tup []) (dB (P ++ st oLt (U ++ V) ++ Q)) 0
/-- Where the search stands. -/
structure SymI (D : List DObj) (s0 r0 p s r : Nat) : Prop where
  h1 : s0 ≤ s
  h2 : s ≤ r
  h3 : r ≤ r0
  lo : s = s0 ∨ ∃ x y, D[s - 1]? = some x ∧ D[p + 1 - s]? = some y ∧ oLt y x = false
  hi : r = r0 ∨ ∃ x y, D[r]? = some x ∧ D[p - r]? = some y ∧ oLt y x = true
def smF (n a m b mid s r : Nat) : List (Nat × AV) := (18, iN mid) :: (19, iN (mid + m)) :: (20, iN s) :: (21, iN r) :: (22, iN (mid + m - 1)) :: smE n a m b
def smG (n a m b mid s e : Nat) : List (Nat × AV) := (18, iN mid) :: (20, iN s) :: (24, iN e) :: smE n a m b
theorem symC (N : Nat) (ih : SymAt N) (P U V Q : List DObj) (n a m b : Nat) (hN : U.length + V.length ≤ N + 1) (hU2 : 2 ≤ U.length) (hV2 : 2 ≤ V.length) (sU : Srt oLt U) (sV : Srt oLt V) (ha : P.length = a) (hm : a + U.length = m) (hb : m + V.length = b) (hn : (P ++ U ++ V ++ Q).length = n) (hn2 : n ≤ 1048576) :
    OrcAt Try.prog 59 [dS n, iN a, iN m, iN b, cF] (dB (P ++ U ++ V ++ Q)) (.tup []) (dB (P ++ st oLt (U ++ V) ++ Q)) 0 := by
  have O := oOrd
  have hlen : b + Q.length = n := by rw [← hn]; simp only [List.length_append]; omega
  generalize hD : P ++ U ++ V ++ Q = D at hn
  refine OrcAt.of_body Try.func59 rfl rfl (Nat.zero_le _) (fun _ h => by omega) (Nat.le_refl _) ?_
  refine .lower (lw := 0) (Nat.zero_le _) ?_
  refine .seq (.seq (gw 220 [(2, hBin 1 (iN m) (iN a) (iN U.length)), (3, hBin 1 (iN U.length) (iN 1) (.bool false))] ((28, .bool false) :: smE n a m b) (dB D) ⟨good_bin (by rw [subN (by omega) (by omega), show m - a = U.length by omega]), good_bin (eqlF (by omega)), trivial⟩ (by kernel_rfl) ?_))
  refine .cond (b := false) rfl (.skip ?_)
  refine .seq (.seq (gw 220 [(2, hBin 1 (iN b) (iN m) (iN V.length)), (3, hBin 1 (iN V.length) (iN 1) (.bool false))] ((80, .bool false) :: smE n a m b) (dB D) ⟨good_bin (by rw [subN (by omega) (by omega), show b - m = V.length by omega]), good_bin (eqlF (by omega)), trivial⟩ (by kernel_rfl) ?_))
  refine .cond (b := false) rfl (.skip ?_)
  obtain ⟨mid, hmid⟩ : ∃ mid, (a + b) / 2 = mid := ⟨_, rfl⟩
  refine .seq (gw 220 [(2, hBin 1 (iN a) (iN b) (iN (a + b))), (3, hCv 1 (iN (a + b)) (.int .u64 ((a + b : Nat) : Int))), (4, hBin 1 (.int .u64 ((a + b : Nat) : Int)) (.int .u64 1) (.int .u64 (mid : Int))), (5, hCv 1 (.int .u64 (mid : Int)) (iN mid))]
    ((18, iN mid) :: smE n a m b) (dB D) ⟨good_bin (addN (by omega)), good_cv (cvU (by omega)), good_bin (by rw [shr1, hmid]), good_cv (cvI (by omega)), trivial⟩ (by kernel_rfl) ?_)
  refine .seq (gw 220 [(2, hBin 1 (iN mid) (iN m) (iN (mid + m)))] ((18, iN mid) :: (19, iN (mid + m)) :: smE n a m b) (dB D) ⟨good_bin (addN (by omega)), trivial⟩ (by kernel_rfl) ?_)
  refine .seq (gw 220 [] ((18, iN mid) :: (19, iN (mid + m)) :: smE n a m b) (dB D) trivial (by kernel_rfl) ?_)
  obtain ⟨s0, hs0⟩ : ∃ s0, (if mid < m then mid + m - b else a) = s0 := ⟨_, rfl⟩
  obtain ⟨r0, hr0⟩ : ∃ r0, (if mid < m then mid else m) = r0 := ⟨_, rfl⟩
  have f1 : s0 ≤ r0 ∧ r0 ≤ m ∧ r0 ≤ mid ∧ a ≤ s0 ∧ mid + m ≤ s0 + b ∧ a + b ≤ 2 * mid + 1 ∧ 2 * mid ≤ a + b := by
    subst hs0; subst hr0
    split <;> omega
  obtain ⟨f1, f2, f3, f4, f5, f6, f7⟩ := f1
  refine .join ⟨sp 220 ((18, iN mid) :: (19, iN (mid + m)) :: (20, iN s0) :: (21, iN r0) :: smE n a m b), dB D, 0⟩ ?_ ?_
  · by_cases h : mid < m
    · rw [if_pos h] at hs0 hr0
      refine .seq (gw 220 [(2, hBin 1 (iN m) (iN mid) (.bool true))] ((140, .bool true) :: (18, iN mid) :: (19, iN (mid + m)) :: smE n a m b) (dB D) ⟨good_bin (gtrT h), trivial⟩ (by kernel_rfl) ?_)
      refine .cond (b := true) rfl (.seq (gw 220 [(2, hBin 1 (iN (mid + m)) (iN b) (iN s0))] ((18, iN mid) :: (19, iN (mid + m)) :: (20, iN s0) :: smE n a m b) (dB D) ⟨good_bin (by rw [subN (by omega) (by omega), hs0]), trivial⟩ (by kernel_rfl) ?_))
      exact gw 220 [] ((18, iN mid) :: (19, iN (mid + m)) :: (20, iN s0) :: (21, iN r0) :: smE n a m b) (dB D) trivial (by rw [← hr0]; kernel_rfl) ⟨rfl, rfl⟩
    · rw [if_neg h] at hs0 hr0
      refine .seq (gw 220 [(2, hBin 1 (iN m) (iN mid) (.bool false))] ((140, .bool false) :: (18, iN mid) :: (19, iN (mid + m)) :: smE n a m b) (dB D) ⟨good_bin (gtrF (by omega)), trivial⟩ (by kernel_rfl) ?_)
      refine .cond (b := false) rfl (.seq (gw 220 [] ((18, iN mid) :: (19, iN (mid + m)) :: (20, iN s0) :: smE n a m b) (dB D) trivial (by rw [← hs0]; kernel_rfl) ?_))
      exact gw 220 [] ((18, iN mid) :: (19, iN (mid + m)) :: (20, iN s0) :: (21, iN r0) :: smE n a m b) (dB D) trivial (by rw [← hr0]; kernel_rfl) ⟨rfl, rfl⟩
  refine .seq (gw 220 [(1, hBin 1 (iN (mid + m)) (iN 1) (iN (mid + m - 1)))] (smF n a m b mid s0 r0) (dB D) ⟨good_bin (subOne (by omega) (by omega)), trivial⟩ (by kernel_rfl) ?_)
  refine .seq (.block (.loop (fun k st => ∃ s r, k = r - s ∧ SymI D s0 r0 (mid + m - 1) s r ∧ st = ⟨sp 220 (smF n a m b mid s r), dB D, 0⟩) (r0 - s0) ⟨s0, r0, rfl, ⟨Nat.le_refl _, f1, Nat.le_refl _, .inl rfl, .inl rfl⟩, rfl⟩ ?_))
  rintro k st ⟨s, r, rfl, I, rfl⟩
  have i1 := I.h1
  have i2 := I.h2
  have i3 := I.h3
  refine .seq (.seq (gw 220 [(2, hBin 1 (iN s) (iN r) (.bool (decide (s < r))))] ((151, .bool (decide (s < r))) :: smF n a m b mid s r) (dB D) ⟨good_bin (lssB rfl), trivial⟩ (by kernel_rfl) ?_))
  by_cases hlt : s < r
  · refine .condT hlt rfl (.skip ?_)
    obtain ⟨c, hc⟩ : ∃ c, (s + r) / 2 = c := ⟨_, rfl⟩
    have c1 : s ≤ c := by omega
    have c2 : c < r := by omega
    obtain ⟨q, hq⟩ : ∃ q, mid + m - 1 - c = q := ⟨_, rfl⟩
    obtain ⟨x, hx⟩ : ∃ x, D[c]? = some x := ⟨_, List.getElem?_eq_getElem (by omega)⟩
    obtain ⟨y, hy⟩ : ∃ y, D[q]? = some y := ⟨_, List.getElem?_eq_getElem (by omega)⟩
    refine .block (.seq (gw 220 [(2, hBin 1 (iN s) (iN r) (iN (s + r))), (3, hCv 1 (iN (s + r)) (.int .u64 ((s + r : Nat) : Int))), (4, hBin 1 (.int .u64 ((s + r : Nat) : Int)) (.int .u64 1) (.int .u64 (c : Int))), (5, hCv 1 (.int .u64 (c : Int)) (iN c))]
      ((23, iN c) :: smF n a m b mid s r) (dB D) ⟨good_bin (addN (by omega)), good_cv (cvU (by omega)), good_bin (by rw [shr1, hc]), good_cv (cvI (by omega)), trivial⟩ (by kernel_rfl) ?_))
    refine .seq (.go E0_ok (ordOrc y x) mix0 220 [(4, hBin 1 (iN (mid + m - 1)) (iN c) (iN q)), (5, hIdxS 1 0 n n false 4 q q), (6, hLd 1 0 (encL encObj D) 43 (q * 4) (encObj y)), (9, hIdxS 1 0 n n false 4 c c), (10, hLd 1 0 (encL encObj D) 43 (c * 4) (encObj x)), (11, hCall 1 38 [.agg (encObj y), .agg (encObj x)] (.int .i64 (cmpS y.mod x.mod)))]
      ((171, .bool (!decide (cmpS y.mod x.mod < 0))) :: (23, iN c) :: smF n a m b mid s r) (dB D) 0 ⟨good_bin (by rw [subN (by omega) (by omega), hq]), objIdx (by omega), objLd hy, objIdx (by omega), objLd hx, good_call rfl rfl, trivial⟩ (by kernel_rfl) ?_)
    cases hlx : oLt y x with
    | false =>
      refine .cond (b := true) (by show AV.bool (!decide (cmpS y.mod x.mod < 0)) = _; rw [cmpS_lt]; exact congrArg (fun b => AV.bool (!b)) hlx) ?_
      refine gw 220 [(1, hBin 1 (iN c) (iN 1) (iN (c + 1)))] (smF n a m b mid (c + 1) r) (dB D) ⟨good_bin (addN (by omega)), trivial⟩ (by kernel_rfl) ?_
      exact ⟨r - (c + 1), by omega, c + 1, r, rfl, ⟨by omega, by omega, i3, .inr ⟨x, y, hx, by rw [show mid + m - 1 + 1 - (c + 1) = q by omega]; exact hy, hlx⟩, I.hi⟩, rfl⟩
    | true =>
      refine .cond (b := false) (by show AV.bool (!decide (cmpS y.mod x.mod < 0)) = _; rw [cmpS_lt]; exact congrArg (fun b => AV.bool (!b)) hlx) ?_
      refine gw 220 [] (smF n a m b mid s c) (dB D) trivial (by kernel_rfl) ?_
      exact ⟨c - s, by omega, s, c, rfl, ⟨i1, by omega, by omega, I.lo, .inr ⟨x, y, hx, by rw [hq]; exact hy, hlx⟩⟩, rfl⟩
  refine .condF hlt rfl (.exit ?_)
  simp only [↓reduceIte]
  obtain rfl : r = s := by omega
  obtain ⟨e, he⟩ : ∃ e, mid + m - r = e := ⟨_, rfl⟩
  have hcut := symCut O hD sU sV ha hm hb (s := r) (e := e) (by omega) (by omega) (by omega) (by omega)
    (by
      rcases I.lo with k | ⟨x, y, k1, k2, k3⟩
      · rw [← hs0] at k
        split at k
        · exact .inr (.inl (by omega))
        · exact .inl k
      · exact .inr (.inr ⟨x, y, k1, by rw [← he, show mid + m - r = mid + m - 1 + 1 - r by omega]; exact k2, k3⟩))
    (by
      rcases I.hi with k | ⟨x, y, k1, k2, k3⟩
      · rw [← hr0] at k
        split at k
        · exact .inr (.inl (by omega))
        · exact .inl k
      · exact .inr (.inr ⟨x, y, k1, by rw [show e - 1 = mid + m - 1 - r by omega]; exact k2, k3⟩))
  have hUs : U.take (r - a) ++ U.drop (r - a) = U := List.take_append_drop _ _
  have hVs : V.take (e - m) ++ V.drop (e - m) = V := List.take_append_drop _ _
  have l1 : (U.take (r - a)).length = r - a := by rw [List.length_take]; omega
  have l2 : (U.drop (r - a)).length = m - r := by rw [List.length_drop]; omega
  have l3 : (V.take (e - m)).length = e - m := by rw [List.length_take]; omega
  have l4 : (V.drop (e - m)).length = b - e := by rw [List.length_drop]; omega
  have pU : Srt oLt (U.take (r - a) ++ U.drop (r - a)) := by rw [hUs]; exact sU
  have pV : Srt oLt (V.take (e - m) ++ V.drop (e - m)) := by rw [hVs]; exact sV
  have sU1 := (List.pairwise_append.1 pU).1
  have sU2 := (List.pairwise_append.1 pU).2.1
  have sV1 := (List.pairwise_append.1 pV).1
  have sV2 := (List.pairwise_append.1 pV).2.1
  have hD1 : D = P ++ U.take (r - a) ++ U.drop (r - a) ++ V.take (e - m) ++ (V.drop (e - m) ++ Q) := by
    rw [← hD]
    conv => lhs; rw [← hUs, ← hVs]
    simp only [List.append_assoc]
  rw [← hcut]
  generalize U.take (r - a) = U1 at *
  generalize U.drop (r - a) = U2 at *
  generalize V.take (e - m) = V1 at *
  generalize V.drop (e - m) = V2 at *
  refine .seq (gw 220 [(2, hBin 1 (iN (mid + m)) (iN r) (iN e))] (smG n a m b mid r e) (dB D) ⟨good_bin (by rw [subN (by omega) (by omega), he]), trivial⟩ (by kernel_rfl) ?_)
  refine .join ⟨sp 220 (smG n a m b mid r e), dB (P ++ U1 ++ V1 ++ (U2 ++ V2 ++ Q)), 0⟩ ?_ ?_
  · by_cases h1 : r < m
    · by_cases h2 : m < e
      · have rot := rotate_ok (P ++ U1) U2 V1 (V2 ++ Q) (n := n) (a := r) (m := m) (b := e) (by rw [List.length_append]; omega) (by omega) (by omega) (by omega) (by omega) (by rw [← hD1]; exact hn) hn2
        rw [← hD1, show P ++ U1 ++ V1 ++ U2 ++ (V2 ++ Q) = P ++ U1 ++ V1 ++ (U2 ++ V2 ++ Q) by simp only [List.append_assoc]] at rot
        refine .seq (gw 220 [(2, hBin 1 (iN r) (iN m) (.bool true)), (6, hBin 1 (iN m) (iN e) (.bool true))] ((185, .bool true) :: smG n a m b mid r e) (dB D) ⟨good_bin (lssB (decide_eq_true h1)), good_bin (lssB (decide_eq_true h2)), trivial⟩ (by kernel_rfl) ?_)
        refine .cond (b := true) rfl ?_
        exact .go E0_ok (oneOrc_ok rot) mix0 220 [(5, hCallH 84 [dS n, iN r, iN m, iN e, cF] (dB D) (.tup []) (dB (P ++ U1 ++ V1 ++ (U2 ++ V2 ++ Q))) 0)] (smG n a m b mid r e) (dB (P ++ U1 ++ V1 ++ (U2 ++ V2 ++ Q))) 0 ⟨good_callH rfl rfl, trivial⟩ (by kernel_rfl) ⟨rfl, rfl⟩
      · refine .seq (gw 220 [(2, hBin 1 (iN r) (iN m) (.bool true)), (6, hBin 1 (iN m) (iN e) (.bool false))] ((185, .bool false) :: smG n a m b mid r e) (dB D) ⟨good_bin (lssB (decide_eq_true h1)), good_bin (lssB (decide_eq_false h2)), trivial⟩ (by kernel_rfl) ?_)
        refine .cond (b := false) rfl (.forget (by kernel_rfl) (.skip ⟨rfl, ?_⟩))
        obtain rfl : V1 = [] := List.length_eq_zero_iff.1 (by omega)
        rw [hD1]; simp only [List.append_assoc, List.nil_append]
    · refine .seq (gw 220 [(2, hBin 1 (iN r) (iN m) (.bool false))] ((185, .bool false) :: smG n a m b mid r e) (dB D) ⟨good_bin (lssB (decide_eq_false h1)), trivial⟩ (by kernel_rfl) ?_)
      refine .cond (b := false) rfl (.forget (by kernel_rfl) (.skip ⟨rfl, ?_⟩))
      obtain rfl : U2 = [] := List.length_eq_zero_iff.1 (by omega)
      rw [hD1]; simp only [List.append_assoc, List.nil_append]
  have hn3 : (P ++ U1 ++ V1 ++ (U2 ++ V2 ++ Q)).length = n := by simp only [List.length_append]; omega
  generalize hD2 : P ++ U1 ++ V1 ++ (U2 ++ V2 ++ Q) = D2 at hn3
  have ne : ∀ {l : List DObj}, 0 < l.length → l ≠ [] := fun h k => by rw [k] at h; cases h
  refine .join ⟨sp 220 (smG n a m b mid r e), dB (P ++ st oLt (U1 ++ V1) ++ (U2 ++ V2 ++ Q)), 0⟩ ?_ ?_
  · by_cases h1 : a < r
    · by_cases h2 : r < mid
      · have rec1 := ih P U1 V1 (U2 ++ V2 ++ Q) n a r mid (by omega) (ne (by omega)) (ne (by omega)) sU1 sV1 ha (by omega) (by omega) (by rw [hD2]; exact hn3) hn2
        rw [hD2] at rec1
        refine .seq (gw 220 [(2, hBin 1 (iN a) (iN r) (.bool true)), (6, hBin 1 (iN r) (iN mid) (.bool true))] ((199, .bool true) :: smG n a m b mid r e) (dB D2) ⟨good_bin (lssB (decide_eq_true h1)), good_bin (lssB (decide_eq_true h2)), trivial⟩ (by kernel_rfl) ?_)
        refine .cond (b := true) rfl ?_
        exact .go E0_ok (oneOrc_ok rec1) mix0 220 [(5, hCallH 59 [dS n, iN a, iN r, iN mid, cF] (dB D2) (.tup []) (dB (P ++ st oLt (U1 ++ V1) ++ (U2 ++ V2 ++ Q))) 0)] (smG n a m b mid r e) (dB (P ++ st oLt (U1 ++ V1) ++ (U2 ++ V2 ++ Q))) 0 ⟨good_callH rfl rfl, trivial⟩ (by kernel_rfl) ⟨rfl, rfl⟩
      · refine .seq (gw 220 [(2, hBin 1 (iN a) (iN r) (.bool true)), (6, hBin 1 (iN r) (iN mid) (.bool false))] ((199, .bool false) :: smG n a m b mid r e) (dB D2) ⟨good_bin (lssB (decide_eq_true h1)), good_bin (lssB (decide_eq_false h2)), trivial⟩ (by kernel_rfl) ?_)
        refine .cond (b := false) rfl (.forget (by kernel_rfl) (.skip ⟨rfl, ?_⟩))
        obtain rfl : V1 = [] := List.length_eq_zero_iff.1 (by omega)
        rw [← hD2, List.append_nil, List.append_nil, st_self O sU1]
    · refine .seq (gw 220 [(2, hBin 1 (iN a) (iN r) (.bool false))] ((199, .bool false) :: smG n a m b mid r e) (dB D2) ⟨good_bin (lssB (decide_eq_false h1)), trivial⟩ (by kernel_rfl) ?_)
      refine .cond (b := false) rfl (.forget (by kernel_rfl) (.skip ⟨rfl, ?_⟩))
      obtain rfl : U1 = [] := List.length_eq_zero_iff.1 (by omega)
      rw [← hD2, List.append_nil, List.nil_append, st_self O sV1]
  have hD3 : P ++ st oLt (U1 ++ V1) ++ (U2 ++ V2 ++ Q) = P ++ st oLt (U1 ++ V1) ++ U2 ++ V2 ++ Q := by simp only [List.append_assoc]
  rw [hD3]
  have hpl : (P ++ st oLt (U1 ++ V1)).length = mid := by rw [List.length_append, st_length, List.length_append]; omega
  have hn4 : (P ++ st oLt (U1 ++ V1) ++ U2 ++ V2 ++ Q).length = n := by rw [List.length_append, List.length_append, List.length_append, hpl]; omega
  rw [← List.append_assoc P]
  generalize P ++ st oLt (U1 ++ V1) = P2 at *
  by_cases h1 : mid < e
  · by_cases h2 : e < b
    · have rec2 := ih P2 U2 V2 Q n mid e b (by omega) (ne (by omega)) (ne (by omega)) sU2 sV2 hpl (by omega) (by omega) hn4 hn2
      refine .seq (gw 220 [(2, hBin 1 (iN mid) (iN e) (.bool true)), (6, hBin 1 (iN e) (iN b) (.bool true))] ((213, .bool true) :: smG n a m b mid r e) (dB (P2 ++ U2 ++ V2 ++ Q)) ⟨good_bin (lssB (decide_eq_true h1)), good_bin (lssB (decide_eq_true h2)), trivial⟩ (by kernel_rfl) ?_)
      refine .cond (b := true) rfl ?_
      exact .go E0_ok (oneOrc_ok rec2) mix0 220 [(5, hCallH 59 [dS n, iN mid, iN e, iN b, cF] (dB (P2 ++ U2 ++ V2 ++ Q)) (.tup []) (dB (P2 ++ st oLt (U2 ++ V2) ++ Q)) 0)] (smG n a m b mid r e) (dB (P2 ++ st oLt (U2 ++ V2) ++ Q)) 0 ⟨good_callH rfl rfl, trivial⟩ (by kernel_rfl) ⟨.inl rfl, Nat.zero_le _, rfl, [], rfl, rfl⟩
    · refine .seq (gw 220 [(2, hBin 1 (iN mid) (iN e) (.bool true)), (6, hBin 1 (iN e) (iN b) (.bool false))] ((213, .bool false) :: smG n a m b mid r e) (dB (P2 ++ U2 ++ V2 ++ Q)) ⟨good_bin (lssB (decide_eq_true h1)), good_bin (lssB (decide_eq_false h2)), trivial⟩ (by kernel_rfl) ?_)
      refine .cond (b := false) rfl (.skip ⟨.inl rfl, Nat.zero_le _, ?_, [], rfl, rfl⟩)
      obtain rfl : V2 = [] := List.length_eq_zero_iff.1 (by omega)
      show dB _ = _
      rw [List.append_nil, List.append_nil, st_self O sU2]
  · refine .seq (gw 220 [(2, hBin 1 (iN mid) (iN e) (.bool false))] ((213, .bool false) :: smG n a m b mid r e) (dB (P2 ++ U2 ++ V2 ++ Q)) ⟨good_bin (lssB (decide_eq_false h1)), trivial⟩ (by kernel_rfl) ?_)
    refine .cond (b := false) rfl (.skip ⟨.inl rfl, Nat.zero_le _, ?_, [], rfl, rfl⟩)
    obtain rfl : U2 = [] := List.length_eq_zero_iff.1 (by omega)
    show dB _ = _
    rw [List.append_nil, List.nil_append, st_self O sV2]
theorem sym_ok : ∀ N, SymAt N := by
  intro N
  induction N with
  | zero =>
    intro P U V Q n a m b hN hU
    exact absurd (List.length_eq_zero_iff.1 (by omega)) hU
  | succ N ih =>
    intro P U V Q n a m b hN hU hV sU sV ha hm hb hn hn2
    match U, V, hU, hV with
    | [x], V, _, _ =>
      have := symA P V Q x sV (n := n) (a := a) (b := b) ha (by simp at hm; omega) hn hn2
      simp only [List.length_singleton] at hm
      subst hm
      exact this
    | u1 :: u2 :: U, [y], _, _ =>
      have := symB P (u1 :: u2 :: U) Q y sU (n := n) (a := a) (m := m) ha hm (by simp) hn hn2
      simp only [List.length_singleton] at hb
      subst hb
      exact this
    | u1 :: u2 :: U, v1 :: v2 :: V, _, _ => exact symC N ih P _ _ Q n a m b hN (by simp) (by simp) sU sV ha hm hb hn hn2
end Go.Proofs.Ytfihpghhngfelaa.Lk
