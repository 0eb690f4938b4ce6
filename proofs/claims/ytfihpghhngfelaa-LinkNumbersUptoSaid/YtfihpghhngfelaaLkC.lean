/- foundrylaw18.mine. Conditions: none (definitions and lemmas). -/
import Derived.Test.YtfihpghhngfelaaLkB
namespace Go.Proofs.Ytfihpghhngfelaa.Lk
open Go Go.Proofs Go.Proofs.Ytfihpghhngfelaa.Ev
set_option maxRecDepth 100000
set_option linter.unusedVariables false
set_option linter.unusedSimpArgs false

abbrev mObs (l : List DObj) : AV := .vsl (encL encObj l) l.length none
abbrev mOut (l : List DObj) (i : Nat) : Blk := blkV i (encL encObj ((l.take i).map objL)) 43
def mSt (l : List DObj) (i : Nat) : St := ⟨sp 130 [(0, mObs l), (3, slV i 0 4), (4, .int .i64 i)], [mOut l i], 0⟩
def mVs (l : List DObj) (i : Nat) (o : DObj) (k : Nat) : St :=
  ⟨sp 130 [(0, mObs l), (3, slV i 0 4), (4, .int .i64 i), (5, .ptr 1 0), (6, .int .i64 k)], [mOut l i, .cells [.str o.mod, slV k 2 3, .nils, .nils] 43, blkV k (encL encVar ((ls o.vars).take k)) 63], 0⟩
def mFs (l : List DObj) (i : Nat) (o : DObj) (k : Nat) : St :=
  ⟨sp 130 [(0, mObs l), (3, slV i 0 4), (4, .int .i64 i), (5, .ptr 1 0), (7, .int .i64 k)], [mOut l i, .cells [.str o.mod, encS encVar (nz (ls o.vars)), slV k 2 5, .nils] 43, blkV k (encL encFnN (((ls o.fns).take k).map fnNL)) 72], 0⟩
def mRs (l : List DObj) (i : Nat) (o : DObj) (k : Nat) : St :=
  ⟨sp 130 [(0, mObs l), (3, slV i 0 4), (4, .int .i64 i), (5, .ptr 1 0), (8, .int .i64 k)], [mOut l i, .cells [.str o.mod, encS encVar (nz (ls o.vars)), encS encFnN (nz ((ls o.fns).map fnNL)), slV k 2 5] 43, blkV k (encL encRel ((ls o.rels).take k)) 73], 0⟩
abbrev mIdx (n : Nat) (l : List DObj) (i : Nat) (o : DObj) : Hint := hIdx n (encL encObj l) l.length none i (encObj o ++ encL encObj (l.drop (i + 1)))
theorem mIdx_ok {l : List DObj} {i : Nat} {o : DObj} (ho : l[i]? = some o) {Φ : Orc} (n : Nat) (x y : Operand) : Hint.Good Try.prog E0 Φ (mIdx n l i o) (.indexAddr 22 x y) := good_idx_enc T22.hu T22.hs kObj ho
theorem clOut (l : List DObj) (i : Nat) : Cls (encL encObj ((l.take i).map objL)) := kObj.cls _

theorem mine_some (l : List DObj) (hl : ObjsLim l) : OrcAt Try.prog 9 [mObs l] [] (encS encObj (mineL (some l))) [] 0 := by
  refine OrcAt.of_body0 Try.func9 rfl rfl ?_
  have hLim : Lim = 1048576 := rfl
  have hl1 : l.length ≤ 1048576 := hl.1
  refine .seq (gw 130 [] [(0, mObs l)] [] trivial (by kernel_rfl) ?_)
  refine .seq (gw 130 [] [(0, mObs l), (3, .nils)] [] trivial (by kernel_rfl) ?_)
  refine .seq (.seq (vw 130 0 [] [(0, mObs l), (3, .nils), (4, .int .i64 0)] [] [7] [(0, mObs l), (3, slV 0 0 4), (4, .int .i64 (0 : Nat))] [mOut l 0] trivial (by kernel_rfl) (by decide)
    ⟨kd (by decide), trivial⟩ ⟨⟨_, rfl, Cl.vsl (kObj.cls _) _ _ _⟩, ⟨_, rfl, .nils⟩, ⟨_, rfl, .int _ _⟩, trivial⟩ ?_))
  refine .block (.loop (fun m s => ∃ i, m = l.length - i ∧ i ≤ l.length ∧ s = mSt l i) l.length ⟨0, rfl, Nat.zero_le _, rfl⟩ ?_)
  rintro m s ⟨i, rfl, hi, rfl⟩
  refine .seq (.seq (gw 130 [] [(0, mObs l), (3, slV i 0 4), (4, .int .i64 i), (13, .bool (decide ((i : Int) < (l.length : Int))))] [mOut l i] trivial (by kernel_rfl) ?_))
  by_cases hlt : (i : Int) < (l.length : Int)
  · refine .condT hlt rfl (.skip ?_)
    obtain ⟨o, ho⟩ : ∃ o, l[i]? = some o := ⟨_, List.getElem?_eq_getElem (by omega)⟩
    have hol : ObjLim o := hl.2 o (List.mem_of_getElem? ho)
    refine .seq (.block (.seq (gw 130 [(2, mIdx 1 l i o)] [(0, mObs l), (3, slV i 0 4), (4, .int .i64 i), (5, .ptr 1 0)] [mOut l i, .cells [.str o.mod, .nils, .nils, .nils] 43] ⟨mIdx_ok ho _ _ _, trivial⟩ (by kernel_rfl) ?_)))
    refine .seq (.seq (vw 130 2 [] [(0, mObs l), (3, slV i 0 4), (4, .int .i64 i), (5, .ptr 1 0), (6, .int .i64 0)] [(0, mOut l i), (1, .cells [.str o.mod, .nils, .nils, .nils] 43)] [0, 1, 7]
      [(0, mObs l), (3, slV i 0 4), (4, .int .i64 i), (5, .ptr 1 0), (6, .int .i64 (0 : Nat))] [mOut l i, .cells [.str o.mod, slV 0 2 3, .nils, .nils] 43, blkV 0 (encL encVar ((ls o.vars).take 0)) 63] trivial (by kernel_rfl) (by decide)
      ⟨.inl ⟨_, rfl, blkV_frz (clOut l i)⟩, .inl ⟨_, rfl, .same (.cons .str (.cons .nils (.cons .nils (.cons .nils .nil))))⟩, kd (by decide), trivial⟩
      ⟨⟨_, rfl, Cl.vsl (kObj.cls _) _ _ _⟩, ⟨_, rfl, slV_frz rfl⟩, ⟨_, rfl, .int _ _⟩, ⟨_, rfl, .ptrKeep (j := 1) rfl⟩, ⟨_, rfl, .int _ _⟩, trivial⟩ ?_))
    refine .block (.loop (fun m s => ∃ k, m = (ls o.vars).length - k ∧ k ≤ (ls o.vars).length ∧ s = mVs l i o k) (ls o.vars).length ⟨0, rfl, Nat.zero_le _, rfl⟩ ?_)
    · rintro m s ⟨k, rfl, hk, rfl⟩
      have hv1 : (ls o.vars).length ≤ 1048576 := hol.1
      refine .seq (.seq (gw 130 [(3, mIdx 3 l i o), (6, hLen 3 (encS encVar o.vars) (ls o.vars).length)]
        [(0, mObs l), (3, slV i 0 4), (4, .int .i64 i), (5, .ptr 1 0), (6, .int .i64 k), (29, .bool (decide ((k : Int) < ((ls o.vars).length : Int))))]
        [mOut l i, .cells [.str o.mod, slV k 2 3, .nils, .nils] 43, blkV k (encL encVar ((ls o.vars).take k)) 63] ⟨mIdx_ok ho _ _ _, good_len T34.hu, trivial⟩ (by kernel_rfl) ?_))
      by_cases hkt : (k : Int) < ((ls o.vars).length : Int)
      · refine .condT hkt rfl (.skip ?_)
        obtain ⟨a, ha⟩ : ∃ a, (ls o.vars)[k]? = some a := ⟨_, List.getElem?_eq_getElem (by omega)⟩
        obtain ⟨om, ov, of_, or_⟩ := o
        rcases ov with _ | ov
        · simp [ls] at ha
        simp only [ls, Option.getD_some] at ha hkt hk hv1
        have hx : ∀ n x y, Hint.Good Try.prog E0 noOrc (hIdx n (encL encVar ov) ov.length none k (encVar a ++ encL encVar (ov.drop (k + 1)))) (.indexAddr 34 x y) := fun n x y => good_idx_enc T34.hu T34.hs kVar ha
        refine .seq (.block (gw 130 [(4, mIdx 3 l i ⟨om, some ov, of_, or_⟩), (8, hIdx 3 (encL encVar ov) ov.length none k (encVar a ++ encL encVar (ov.drop (k + 1)))), (13, mIdx 3 l i ⟨om, some ov, of_, or_⟩), (17, hIdx 3 (encL encVar ov) ov.length none k (encVar a ++ encL encVar (ov.drop (k + 1)))),
            (22, hAppD 4 k 2 3 (encL encVar (ov.take k)) 63 (.sl 3 0 1 1 true 3) (encVar a) [3] [(3, .cells (encVar a) 63)])]
          [(0, mObs l), (3, slV i 0 4), (4, .int .i64 i), (5, .ptr 1 0), (6, .int .i64 k)]
          [mOut l i, .cells [.str om, .sl 4 0 (k + 1) (k + 1) false 3, .nils, .nils] 43, .dead, .cells (encVar a) 63, .cells (encL encVar (ov.take k) ++ encVar a) 63]
          ⟨mIdx_ok ho _ _ _, hx _ _ _, mIdx_ok ho _ _ _, hx _ _ _, good_appD T39 rfl rfl rfl rfl rfl (fun h hh => srcA_sl (hh _ List.mem_cons_self) rfl) (by rw [kVar.length, List.length_take, Nat.min_eq_left (by omega)]) (kVar.leaf a) (room (show k ≤ Lim by omega) (by omega) (by omega)), trivial⟩
          (by cases k <;> kernel_rfl) ?_))
        refine vw 130 5 [] [(0, mObs l), (3, slV i 0 4), (4, .int .i64 i), (5, .ptr 1 0), (6, .int .i64 (IntKind.i64.wrap ((k : Int) + 1)))]
          [(0, mOut l i), (1, .cells [.str om, .sl 4 0 (k + 1) (k + 1) false 3, .nils, .nils] 43), (4, .cells (encL encVar (ov.take k) ++ encVar a) 63)] [0, 1, 4]
          [(0, mObs l), (3, slV i 0 4), (4, .int .i64 i), (5, .ptr 1 0), (6, .int .i64 ((k + 1 : Nat) : Int))]
          [mOut l i, .cells [.str om, slV (k + 1) 2 3, .nils, .nils] 43, blkV (k + 1) (encL encVar (ov.take (k + 1))) 63] trivial (by kernel_rfl) (by decide)
          ⟨.inl ⟨_, rfl, blkV_frz (clOut l i)⟩, .inl ⟨_, rfl, .all (.cons (.str _) (.cons (slV_frz (n := k + 1) (i := 4) (j := 2) rfl) (.cons .nils (.cons .nils .nil))))⟩, .inl ⟨_, rfl, .all ?_⟩, trivial⟩
          ⟨⟨_, rfl, Cl.vsl (kObj.cls _) _ _ _⟩, ⟨_, rfl, slV_frz rfl⟩, ⟨_, rfl, .int _ _⟩, ⟨_, rfl, .ptrKeep (j := 1) rfl⟩, ⟨_, rfl, by rw [incr (by omega)]; exact .int _ _⟩, trivial⟩ ?_
        · rw [encL_take_succ ha]
          exact ((kVar.cls _).append (kVar.cl a)).frzs
        · exact ⟨ov.length - (k + 1), by simp only [ls, Option.getD_some]; omega, k + 1, rfl, by simp only [ls, Option.getD_some]; omega, rfl⟩
      · refine .condF hkt rfl (.exit ?_)
        have hk2 : k = (ls o.vars).length := by omega
        subst hk2
        simp only [↓reduceIte]
        refine .seq (.seq (vw 130 3 [] [(0, mObs l), (3, slV i 0 4), (4, .int .i64 i), (5, .ptr 1 0), (7, .int .i64 0)]
          [(0, mOut l i), (1, .cells [.str o.mod, slV (ls o.vars).length 2 3, .nils, .nils] 43), (2, blkV (ls o.vars).length (encL encVar ((ls o.vars).take (ls o.vars).length)) 63)] [0, 1, 7]
          [(0, mObs l), (3, slV i 0 4), (4, .int .i64 i), (5, .ptr 1 0), (7, .int .i64 (0 : Nat))]
          [mOut l i, .cells [.str o.mod, encS encVar (nz (ls o.vars)), slV 0 2 5, .nils] 43, blkV 0 (encL encFnN (((ls o.fns).take 0).map fnNL)) 72] trivial (by kernel_rfl) (by decide)
          ⟨.inl ⟨_, rfl, blkV_frz (clOut l i)⟩, .inl ⟨_, rfl, .all (.cons (.str _) (.cons (slV_done kVar (e := 63) (by decide) (by simp only [List.take_length]; rfl)) (.cons .nils (.cons .nils .nil))))⟩, kd (by decide), trivial⟩
          ⟨⟨_, rfl, Cl.vsl (kObj.cls _) _ _ _⟩, ⟨_, rfl, slV_frz rfl⟩, ⟨_, rfl, .int _ _⟩, ⟨_, rfl, .ptrKeep (j := 1) rfl⟩, ⟨_, rfl, .int _ _⟩, trivial⟩ ?_))
        refine .block (.loop (fun m s => ∃ k, m = (ls o.fns).length - k ∧ k ≤ (ls o.fns).length ∧ s = mFs l i o k) (ls o.fns).length ⟨0, rfl, Nat.zero_le _, rfl⟩ ?_)
        rintro m s ⟨k, rfl, hk, rfl⟩
        have hv2 : (ls o.fns).length ≤ 1048576 := hol.2.1
        refine .seq (.seq (gw 130 [(3, mIdx 3 l i o), (6, hLen 3 (encS encFnN o.fns) (ls o.fns).length)]
          [(0, mObs l), (3, slV i 0 4), (4, .int .i64 i), (5, .ptr 1 0), (7, .int .i64 k), (63, .bool (decide ((k : Int) < ((ls o.fns).length : Int))))]
          (mFs l i o k).h ⟨mIdx_ok ho _ _ _, good_len T35.hu, trivial⟩ (by kernel_rfl) ?_))
        by_cases hkt : (k : Int) < ((ls o.fns).length : Int)
        · refine .condT hkt rfl (.skip ?_)
          obtain ⟨a, ha⟩ : ∃ a, (ls o.fns)[k]? = some a := ⟨_, List.getElem?_eq_getElem (by omega)⟩
          have hfl := hol.2.2.2 a (List.mem_of_getElem? ha)
          obtain ⟨om, ov, of_, or_⟩ := o
          rcases of_ with _ | of_
          · simp [ls] at ha
          simp only [ls, Option.getD_some] at ha hkt hk hv2
          have hx : ∀ Φ n x y, Hint.Good Try.prog E0 Φ (hIdx n (encL encFnN of_) of_.length none k (encFnN a ++ encL encFnN (of_.drop (k + 1)))) (.indexAddr 35 x y) := fun Φ n x y => good_idx_enc T35.hu T35.hs kFnN ha
          refine .seq (.block (.go E0_ok (pureOrc_ok (fn_ok a.fn hfl) (.cons (.agg (imFn _)) .nil) (.agg (imFn _))) mix0 130
            [(4, mIdx 3 l i ⟨om, ov, some of_, or_⟩), (8, hIdx 3 (encL encFnN of_) of_.length none k (encFnN a ++ encL encFnN (of_.drop (k + 1)))), (13, mIdx 3 l i ⟨om, ov, some of_, or_⟩), (17, hIdx 3 (encL encFnN of_) of_.length none k (encFnN a ++ encL encFnN (of_.drop (k + 1)))),
              (20, hCall 3 19 [.agg (encFn a.fn)] (.agg (encFn (fnL a.fn)))), (23, hAppD 4 k 2 5 (encL encFnN ((of_.take k).map fnNL)) 72 (.sl 3 0 1 1 true 5) (encFnN (fnNL a)) [3] [(3, .cells (encFnN (fnNL a)) 72)])]
            [(0, mObs l), (3, slV i 0 4), (4, .int .i64 i), (5, .ptr 1 0), (7, .int .i64 k)]
            [mOut l i, .cells [.str om, encS encVar (nz (ls ov)), .sl 4 0 (k + 1) (k + 1) false 5, .nils] 43, .dead, .cells (encFnN (fnNL a)) 72, .cells (encL encFnN ((of_.take k).map fnNL) ++ encFnN (fnNL a)) 72] 0
            ⟨mIdx_ok ho _ _ _, hx _ _ _ _, mIdx_ok ho _ _ _, hx _ _ _ _, good_call rfl rfl, good_appD T40 rfl rfl rfl rfl rfl (fun h hh => srcA_sl (hh _ List.mem_cons_self) rfl) (by rw [kFnN.length, List.length_map, List.length_take, Nat.min_eq_left (by omega)]) (kFnN.leaf _) (room (show k ≤ Lim by omega) (by omega) (by omega)), trivial⟩
            (by cases k <;> kernel_rfl) ?_))
          refine vw 130 5 [] [(0, mObs l), (3, slV i 0 4), (4, .int .i64 i), (5, .ptr 1 0), (7, .int .i64 (IntKind.i64.wrap ((k : Int) + 1)))]
            [(0, mOut l i), (1, .cells [.str om, encS encVar (nz (ls ov)), .sl 4 0 (k + 1) (k + 1) false 5, .nils] 43), (4, .cells (encL encFnN ((of_.take k).map fnNL) ++ encFnN (fnNL a)) 72)] [0, 1, 4]
            [(0, mObs l), (3, slV i 0 4), (4, .int .i64 i), (5, .ptr 1 0), (7, .int .i64 ((k + 1 : Nat) : Int))]
            [mOut l i, .cells [.str om, encS encVar (nz (ls ov)), slV (k + 1) 2 5, .nils] 43, blkV (k + 1) (encL encFnN ((of_.take (k + 1)).map fnNL)) 72] trivial (by kernel_rfl) (by decide)
            ⟨.inl ⟨_, rfl, blkV_frz (clOut l i)⟩, .inl ⟨_, rfl, .all (.cons (.str _) (.cons (kVar.clS _ _ _ _) (.cons (slV_frz (n := k + 1) (i := 4) (j := 2) rfl) (.cons .nils .nil))))⟩, .inl ⟨_, rfl, .all ?_⟩, trivial⟩
            ⟨⟨_, rfl, Cl.vsl (kObj.cls _) _ _ _⟩, ⟨_, rfl, slV_frz rfl⟩, ⟨_, rfl, .int _ _⟩, ⟨_, rfl, .ptrKeep (j := 1) rfl⟩, ⟨_, rfl, by rw [incr (by omega)]; exact .int _ _⟩, trivial⟩ ?_
          · have hm : (of_.map fnNL)[k]? = some (fnNL a) := by rw [List.getElem?_map, ha]; rfl
            rw [List.map_take, List.map_take, encL_take_succ hm]
            exact ((kFnN.cls _).append (kFnN.cl _)).frzs
          · exact ⟨of_.length - (k + 1), by simp only [ls, Option.getD_some]; omega, k + 1, rfl, by simp only [ls, Option.getD_some]; omega, rfl⟩
        · refine .condF hkt rfl (.exit ?_)
          have hk2 : k = (ls o.fns).length := by omega
          subst hk2
          simp only [↓reduceIte]
          refine .seq (.seq (vw 130 3 [] [(0, mObs l), (3, slV i 0 4), (4, .int .i64 i), (5, .ptr 1 0), (8, .int .i64 0)]
            [(0, mOut l i), (1, .cells [.str o.mod, encS encVar (nz (ls o.vars)), slV (ls o.fns).length 2 5, .nils] 43), (2, blkV (ls o.fns).length (encL encFnN (((ls o.fns).take (ls o.fns).length).map fnNL)) 72)] [0, 1, 7]
            [(0, mObs l), (3, slV i 0 4), (4, .int .i64 i), (5, .ptr 1 0), (8, .int .i64 (0 : Nat))]
            [mOut l i, .cells [.str o.mod, encS encVar (nz (ls o.vars)), encS encFnN (nz ((ls o.fns).map fnNL)), slV 0 2 5] 43, blkV 0 (encL encRel ((ls o.rels).take 0)) 73] trivial (by kernel_rfl) (by decide)
            ⟨.inl ⟨_, rfl, blkV_frz (clOut l i)⟩, .inl ⟨_, rfl, .all (.cons (.str _) (.cons (kVar.clS _ _ _ _) (.cons ?_ (.cons .nils .nil))))⟩, kd (by decide), trivial⟩
            ⟨⟨_, rfl, Cl.vsl (kObj.cls _) _ _ _⟩, ⟨_, rfl, slV_frz rfl⟩, ⟨_, rfl, .int _ _⟩, ⟨_, rfl, .ptrKeep (j := 1) rfl⟩, ⟨_, rfl, .int _ _⟩, trivial⟩ ?_))
          · have hlen : (ls o.fns).length = ((ls o.fns).map fnNL).length := (List.length_map _).symm
            simp only [List.take_length]
            rw [hlen]
            exact slV_done kFnN (e := 72) (by decide) rfl
          refine .block (.loop (fun m s => ∃ k, m = (ls o.rels).length - k ∧ k ≤ (ls o.rels).length ∧ s = mRs l i o k) (ls o.rels).length ⟨0, rfl, Nat.zero_le _, rfl⟩ ?_)
          rintro m s ⟨k, rfl, hk, rfl⟩
          have hv3 : (ls o.rels).length ≤ 1048576 := hol.2.2.1
          refine .seq (.seq (gw 130 [(3, mIdx 3 l i o), (6, hLen 3 (encS encRel o.rels) (ls o.rels).length)]
            [(0, mObs l), (3, slV i 0 4), (4, .int .i64 i), (5, .ptr 1 0), (8, .int .i64 k), (98, .bool (decide ((k : Int) < ((ls o.rels).length : Int))))]
            (mRs l i o k).h ⟨mIdx_ok ho _ _ _, good_len T36.hu, trivial⟩ (by kernel_rfl) ?_))
          by_cases hkt : (k : Int) < ((ls o.rels).length : Int)
          · refine .condT hkt rfl (.skip ?_)
            obtain ⟨a, ha⟩ : ∃ a, (ls o.rels)[k]? = some a := ⟨_, List.getElem?_eq_getElem (by omega)⟩
            obtain ⟨om, ov, of_, or_⟩ := o
            rcases or_ with _ | or_
            · simp [ls] at ha
            simp only [ls, Option.getD_some] at ha hkt hk hv3
            refine .seq (.block (.seq (gw 130 [(2, mIdx 3 l i ⟨om, ov, of_, some or_⟩), (6, hIdx 3 (encL encRel or_) or_.length none k (encRel a ++ encL encRel (or_.drop (k + 1))))]
              [(0, mObs l), (3, slV i 0 4), (4, .int .i64 i), (5, .ptr 1 0), (8, .int .i64 k), (9, .ptr 3 0)]
              ((mRs l i ⟨om, ov, of_, some or_⟩ k).h ++ [.cells (encRel a) 57]) ⟨mIdx_ok ho _ _ _, good_idx_enc T36.hu T36.hs kRel ha, trivial⟩ (by kernel_rfl) ?_)))
            refine gw 130 [(14, hAppD 5 k 2 5 (encL encRel (or_.take k)) 73 (.sl 4 0 1 1 true 5) (encRel a) [4] [(4, .cells (encRel a) 73)])]
              [(0, mObs l), (3, slV i 0 4), (4, .int .i64 i), (5, .ptr 1 0), (8, .int .i64 k)]
              [mOut l i, .cells [.str om, encS encVar (nz (ls ov)), encS encFnN (nz ((ls of_).map fnNL)), .sl 5 0 (k + 1) (k + 1) false 5] 43, .dead, .cells (encRel a) 57, .cells (encRel a) 73, .cells (encL encRel (or_.take k) ++ encRel a) 73]
              ⟨good_appD T41 rfl rfl rfl rfl rfl (fun h hh => srcA_sl (hh _ List.mem_cons_self) rfl) (by rw [kRel.length, List.length_take, Nat.min_eq_left (by omega)]) (kRel.leaf _) (room (show k ≤ Lim by omega) (by omega) (by omega)), trivial⟩
              (by cases k <;> kernel_rfl) ?_
            refine vw 130 6 [] [(0, mObs l), (3, slV i 0 4), (4, .int .i64 i), (5, .ptr 1 0), (8, .int .i64 (IntKind.i64.wrap ((k : Int) + 1)))]
              [(0, mOut l i), (1, .cells [.str om, encS encVar (nz (ls ov)), encS encFnN (nz ((ls of_).map fnNL)), .sl 5 0 (k + 1) (k + 1) false 5] 43), (5, .cells (encL encRel (or_.take k) ++ encRel a) 73)] [0, 1, 5]
              [(0, mObs l), (3, slV i 0 4), (4, .int .i64 i), (5, .ptr 1 0), (8, .int .i64 ((k + 1 : Nat) : Int))]
              [mOut l i, .cells [.str om, encS encVar (nz (ls ov)), encS encFnN (nz ((ls of_).map fnNL)), slV (k + 1) 2 5] 43, blkV (k + 1) (encL encRel (or_.take (k + 1))) 73] trivial (by kernel_rfl) (by decide)
              ⟨.inl ⟨_, rfl, blkV_frz (clOut l i)⟩, .inl ⟨_, rfl, .all (.cons (.str _) (.cons (kVar.clS _ _ _ _) (.cons (kFnN.clS _ _ _ _) (.cons (slV_frz (n := k + 1) (i := 5) (j := 2) rfl) .nil))))⟩, .inl ⟨_, rfl, .all ?_⟩, trivial⟩
              ⟨⟨_, rfl, Cl.vsl (kObj.cls _) _ _ _⟩, ⟨_, rfl, slV_frz rfl⟩, ⟨_, rfl, .int _ _⟩, ⟨_, rfl, .ptrKeep (j := 1) rfl⟩, ⟨_, rfl, by rw [incr (by omega)]; exact .int _ _⟩, trivial⟩ ?_
            · rw [encL_take_succ ha]
              exact ((kRel.cls _).append (kRel.cl a)).frzs
            · exact ⟨or_.length - (k + 1), by simp only [ls, Option.getD_some]; omega, k + 1, rfl, by simp only [ls, Option.getD_some]; omega, rfl⟩
          · refine .condF hkt rfl (.exit ?_)
            have hk2 : k = (ls o.rels).length := by omega
            subst hk2
            simp only [↓reduceIte]
            refine .pln (Pln.of [0, 1] (k := 130) (lw := 0) (l := [(0, mObs l), (3, slV i 0 4), (4, .int .i64 i), (5, .ptr 1 0)]) (K := [mOut l i, .cells (encObj (objL o)) 43]) rfl rfl (by decide)
              ⟨.inl ⟨_, rfl, blkV_frz (clOut l i)⟩, .inl ⟨_, rfl, .all (.cons (.str _) (.cons (kVar.clS _ _ _ _) (.cons (kFnN.clS _ _ _ _) (.cons (slV_done kRel (e := 73) (by decide) (by simp only [mRs, List.take_length]; rfl)) .nil))))⟩, trivial⟩
              ⟨⟨_, rfl, Cl.vsl (kObj.cls _) _ _ _⟩, ⟨_, rfl, slV_frz rfl⟩, ⟨_, rfl, .int _ _⟩, ⟨_, rfl, .ptrKeep (j := 1) rfl⟩, trivial⟩) ?_
            refine gw 130 [(3, hAppD 3 i 0 4 (encL encObj ((l.take i).map objL)) 43 (.sl 2 0 1 1 true 4) (encObj (objL o)) [2] [(2, .cells (encObj (objL o)) 43)])]
              [(0, mObs l), (3, .sl 3 0 (i + 1) (i + 1) false 4), (4, .int .i64 i)] [.dead, .cells (encObj (objL o)) 43, .cells (encObj (objL o)) 43, .cells (encL encObj ((l.take i).map objL) ++ encObj (objL o)) 43]
              ⟨good_appD T25 rfl rfl rfl rfl rfl (fun h hh => srcA_sl (hh _ List.mem_cons_self) rfl) (by rw [kObj.length, List.length_map, List.length_take, Nat.min_eq_left (by omega)]) (kObj.leaf _) (room (show i ≤ Lim by omega) (by omega) (by omega)), trivial⟩
              (by cases i <;> kernel_rfl) ?_
            refine vw 130 4 [] [(0, mObs l), (3, .sl 3 0 (i + 1) (i + 1) false 4), (4, .int .i64 (IntKind.i64.wrap ((i : Int) + 1)))] [(3, .cells (encL encObj ((l.take i).map objL) ++ encObj (objL o)) 43)] [3]
              [(0, mObs l), (3, slV (i + 1) 0 4), (4, .int .i64 ((i + 1 : Nat) : Int))] [mOut l (i + 1)] trivial (by kernel_rfl) (by decide)
              ⟨.inl ⟨_, rfl, .all ?_⟩, trivial⟩ ⟨⟨_, rfl, Cl.vsl (kObj.cls _) _ _ _⟩, ⟨_, rfl, slV_frz (n := i + 1) (i := 3) (j := 0) rfl⟩, ⟨_, rfl, by rw [incr (by omega)]; exact .int _ _⟩, trivial⟩ ?_
            · have hm : (l.map objL)[i]? = some (objL o) := by rw [List.getElem?_map, ho]; rfl
              rw [List.map_take, List.map_take, encL_take_succ hm]
              exact ((kObj.cls _).append (kObj.cl _)).frzs
            · exact ⟨l.length - (i + 1), by omega, i + 1, rfl, by omega, rfl⟩
  · refine .condF hlt rfl (.exit ?_)
    have hi2 : i = l.length := by omega
    subst hi2
    simp only [↓reduceIte]
    refine .seq (gw 130 [] [(2, slV l.length 0 4)] [mOut l l.length] trivial (by kernel_rfl) ?_)
    refine .ret ⟨.inr rfl, [slV l.length 0 4], by kernel_rfl, ?_⟩
    have key : ([mOut l l.length] : Heap)[0]? = some (blkV (l.map objL).length (encL encObj (l.map objL)) 43) := by rw [List.length_map]; simp only [List.getElem?_cons_zero, mOut, List.take_length]
    have := slV_done kObj (σ := []) (by decide) key
    rw [List.length_map] at this
    exact this
end Go.Proofs.Ytfihpghhngfelaa.Lk
