/- append, make. Conditions: none (definitions and lemmas). -/
import Derived.Test.YtgcdpdkccaabcaaGreatEvG
namespace Go.Proofs.YtgcdpdkccaabcaaGreat.Ev
open Go
set_option linter.unusedVariables false
set_option linter.unusedSimpArgs false
set_option linter.unusedSectionVars false

def bytesA (P : Program) (t : TypeId) : Option Nat := (P.info? t).map (·.bytes)
theorem typeInfo_bytes {P : Program} {t : TypeId} {n : Nat} (h : bytesA P t = some n) (w : World) : ∃ i, (typeInfo t).run P w = .ok i w ∧ i.bytes = n := by
  unfold bytesA at h
  obtain ⟨i, hi, rfl⟩ := Option.map_eq_some_iff.1 h
  exact ⟨i, run_typeInfo' w hi, rfl⟩

/-- make([]T, n, c) -/
def makeSliceA (P : Program) (h : Heap) (t : TypeId) (l c : AV) : Option (AV × Heap) :=
  match P.underlying t, l, c with
  | some (.slice e), .int .i64 l, .int .i64 c => match szA P e, bytesA P e, zeroA P e with
    | some size, some bytes, some z =>
      if z.length = size ∧ size ≠ 0 ∧ 0 ≤ l ∧ l ≤ c ∧ c ≤ 4294967296 ∧ c.toNat * bytes ≤ 140737488355328 then
        some (.sl h.length 0 l.toNat c.toNat true size, h ++ [.cells (zerosA z c.toNat) e])
      else none
    | _, _, _ => none
  | _, _, _ => none
theorem wrap64_id {n : Int} (h0 : 0 ≤ n) (h1 : n ≤ 4294967296) : IntKind.i64.wrap n = n := by
  simp only [IntKind.wrap, IntKind.bits, IntKind.signed]
  simp
  omega
theorem makeSliceA_run {P : Program} {fp : Nat → Prop} {L : LC} {h h' : Heap} {w : World} (s : SatOn fp L h w) {t : TypeId} {l c x : AV} {vl vc : Value} (e : makeSliceA P h t l c = some (x, h')) (hl : RV L l vl) (hc : RV L c vc) :
    ∃ v w' L', (Instr.makeSlice t vl vc).run P w = .ok v w' ∧ Stp (fun _ => False) L h w L' h' w' ∧ RV L' x v := by
  unfold makeSliceA at e
  split at e
  · rename_i te l c hu
    simp only [RV] at hl hc
    subst hl; subst hc
    split at e
    · rename_i size bytes z hs hb hz
      by_cases hcnd : z.length = size ∧ size ≠ 0 ∧ 0 ≤ l ∧ l ≤ c ∧ c ≤ 4294967296 ∧ c.toNat * bytes ≤ 140737488355328
      · rw [if_pos hcnd] at e
        obtain ⟨hzl, hs0, hl0, hlc, hc1, hroom⟩ := hcnd
        cases e
        obtain ⟨zv, hzr, hzc⟩ := zeroA_run hz w L
        obtain ⟨i, hi, hib⟩ := typeInfo_bytes hb w
        have hzs : zv.cells.size = size := by rw [← hzc.size, hzl]
        have hzz := zeros_rel hzc c.toNat
        rw [hzs] at hzz
        have w1 := wrap64_id hl0 (by omega : l ≤ 4294967296)
        have w2 := wrap64_id (by omega : 0 ≤ c) hc1
        have big : ∀ n : Int, 0 ≤ n → n ≤ c → (decide (n < 0) || decide ((i.bytes : Int) * n > 2 ^ 48)) = false := by
          intro n h1 h2
          have e1 : ((i.bytes : Int) * n) ≤ 140737488355328 := by
            have : (i.bytes : Int) * n ≤ (i.bytes : Int) * c := Int.mul_le_mul_of_nonneg_left h2 (by omega)
            have e2 : (i.bytes : Int) * c = ((c.toNat * bytes : Nat) : Int) := by rw [hib]; push_cast; rw [Int.mul_comm]; congr 1; omega
            omega
          have e3 : ¬ n < 0 := by omega
          have e4 : ¬ ((i.bytes : Int) * n > 2 ^ 48) := by
            have : (2 : Int) ^ 48 = 281474976710656 := by decide
            omega
          have e5 : ¬ ((i.bytes : Int) * n > 281474976710656) := by omega
          simp [e3, e5]
        have hcz : c.toNat * size = 0 → c.toNat = 0 := fun e => by
          rcases Nat.mul_eq_zero.1 e with e | e
          · exact e
          · exact absurd e hs0
        have hrun : (Instr.makeSlice t (.int .i64 l) (.int .i64 c)).run P w = .ok (.slice (some ⟨w.heap.size, 0, none⟩) l.toNat c.toNat) (pushed w (.cells ((Array.range (c.toNat * size)).map fun i => zv.cells[i % size]!) te)) := by
          have hl' : ¬ l < 0 := by omega
          have hlc' : ¬ l > c := by omega
          have bc := big c (by omega) (Int.le_refl _)
          by_cases h0 : c.toNat * size = 0
          · have e0 : ∀ f : Nat → Value, (Array.range (c.toNat * size)).map f = #[] := fun f => by rw [h0]; simp
            simp only [Instr.makeSlice, Sem.run_bind, run_underlying hu, Result.andThen_ok, asInt, asIntOf, Sem.run_pure, hi, w1, w2, bc, Bool.false_or, decide_eq_true_eq, hl', hlc', decide_false, Bool.or_self, Bool.false_eq_true, if_false, Sem.run_ite, run_askRoom, run_sizeOf' w hs, if_pos h0, e0]
            simp [newRow, pushed]
          · simp only [Instr.makeSlice, Sem.run_bind, run_underlying hu, Result.andThen_ok, asInt, asIntOf, Sem.run_pure, hi, w1, w2, bc, Bool.false_or, decide_eq_true_eq, hl', hlc', decide_false, Bool.or_self, Bool.false_eq_true, if_false, Sem.run_ite, run_askRoom, run_sizeOf' w hs, if_neg h0, hzr, hzs]
            simp [newRow, pushed]
        refine ⟨_, _, _, hrun, fresh_cells (P := P) s (by rw [List.take_of_length_le (by simp [zerosA_length, hzl])]; exact hzz) (by simp [zerosA_length, hzl]), ⟨_, c.toNat, .inr new_ρ, rfl, Nat.le_refl _, by omega, fun _ => rfl, ?_⟩⟩
        simp
      · rw [if_neg hcnd] at e; cases e
    · cases e
  · cases e

/-! ### append -/
/-- What is appended: its cells, how many, what is read. -/
def srcA (h : Heap) (size : Nat) : AV → Option (List AV × Nat × List Nat)
  | .nils => some ([], 0, [])
  | .vsl xs n _ => if xs.length = n * size then some (xs, n, []) else none
  | .sl id off len _ _ _ => match cellsAt h id with
    | some cs => if off + len * size ≤ cs.length then some ((cs.drop off).take (len * size), len, [id]) else none
    | none => none
  | _ => none
theorem srcA_run {P : Program} {fp : Nat → Prop} {L : LC} {h : Heap} {w : World} (s : SatOn fp L h w) {size n : Nat} {x : AV} {cs : List AV} {rd : List Nat} (e : srcA h size x = some (cs, n, rd)) (hfp : ∀ id ∈ rd, fp id) {v : Value} (hx : RV L x v) :
    (Builtin.lenOf v).run P w = .ok n w ∧ cs.length = n * size ∧ ∀ m, (m = w.drawn ∨ m = w.drawn + 1) → ∃ vs, (Builtin.firstCells size n v).run P (drawnTo w m) = .ok vs (drawnTo w m) ∧ RVs L cs vs.toList := by
  unfold srcA at e
  split at e
  · cases e
    simp only [RV] at hx; subst hx
    exact ⟨by simp [Builtin.lenOf], by simp, fun m _ => ⟨#[], by simp [Builtin.firstCells], by simp [RVs]⟩⟩
  · rename_i xs k c
    by_cases hl : xs.length = k * size
    · rw [if_pos hl] at e
      cases e
      simp only [RV] at hx
      obtain ⟨a, c', rfl, _, _, hx⟩ := hx
      refine ⟨by simp [Builtin.lenOf], hl, fun m _ => ?_⟩
      rcases hx with ⟨rfl, rfl⟩ | ⟨ds, hm, hsp, hr⟩
      · refine ⟨#[], ?_, by simp [RVs]⟩
        obtain ⟨ab, ao, asp⟩ := a
        simp [Builtin.firstCells, loadCells, loadCellsFrom]
      · obtain ⟨ab, ao, asp⟩ := a
        simp only at hsp hm hr
        subst hsp
        obtain ⟨cs', e', fr, h1, h2⟩ := (s.drawn m).imm ab ds hm
        have sh : Shows L (drawnTo w m) ab ao cs := ⟨cs', e', fr, h1, by rw [h2]; exact hr⟩
        obtain ⟨vs, h3, h4⟩ := loadCells_run (P := P) sh (n := n * size) (by omega)
        rw [List.take_of_length_le (by omega)] at h4
        exact ⟨vs, by simpa [Builtin.firstCells] using h3, h4⟩
    · rw [if_neg hl] at e; cases e
  · rename_i id off len lo ex es
    cases hcs : cellsAt h id with
    | none => simp [hcs] at e
    | some ds =>
      simp only [hcs] at e
      by_cases hl : off + len * size ≤ ds.length
      · rw [if_pos hl] at e
        cases e
        simp only [RV] at hx
        obtain ⟨p, c, hp, rfl, _⟩ := hx
        refine ⟨by simp [Builtin.lenOf], by simp; omega, fun m _ => ?_⟩
        obtain ⟨t, ht⟩ := cellsAt_eq hcs
        rcases hp with hp | hp
        · have := s.dead id hp (hfp id (by simp)); rw [ht] at this; cases this
        · have hb := (s.drawn m).blk id p (hfp id (by simp)) hp
          rw [ht] at hb
          obtain ⟨c', h1, h2, h3, h4⟩ := hb
          have sh : Shows L (drawnTo w m) p.b p.o ds := ⟨c', t, _, h1, h4⟩
          obtain ⟨vs, h5, h6⟩ := loadCells_run (P := P) (sh.drop off) (n := n * size) (by simp; omega)
          exact ⟨vs, by simpa [Builtin.firstCells] using h5, h6⟩
      · rw [if_neg hl] at e; cases e
  · cases e

def isIntD : TypeDesc → Bool
  | .int _ => true
  | _ => false
/-- append(s, x...) -/
def appendA (P : Program) (h : Heap) (st xt : TypeId) (s x : AV) : Option (AV × Heap × Eff) :=
  match P.underlying st, P.underlying xt with
  | some (.slice e), some d =>
    if isIntD d then none else
    match szA P e, bytesA P e, zeroA P e with
    | some size, some bytes, some z =>
      if z.length = size ∧ size ≠ 0 ∧ bytes ≠ 0 then match srcA h size x with
        | some (src, k, rd) =>
          if k = 0 then match s with
            | .nils => some (.nils, h, ⟨rd, []⟩)
            | .vsl xs n c => some (.vsl xs n c, h, ⟨rd, []⟩)
            | .sl id off len lo ex es => some (.sl id off len lo ex es, h, ⟨rd, []⟩)
            | _ => none
          else match s with
            | .nils => if k * bytes ≤ 140737488355328 then some (.sl h.length 0 k k false size, h ++ [.cells src e], ⟨rd, []⟩) else none
            | .vsl xs n (some c) =>
              if c < n + k ∧ xs.length = n * size ∧ (n + k) * bytes ≤ 140737488355328 then some (.sl h.length 0 (n + k) (n + k) false size, h ++ [.cells (xs ++ src) e], ⟨rd, []⟩) else none
            | .sl id off len lo ex es => match h[id]? with
              | some (.cells cs e') =>
                if es = size ∧ off + len * size ≤ cs.length then
                  if len + k ≤ lo then
                    if off + (len + k) * size ≤ cs.length ∧ src.all leafA = true then some (.sl id off (len + k) lo ex es, h.set id (.cells (setAll cs (off + len * size) src) e'), ⟨rd, [id]⟩) else none
                  else if (len + k) * bytes ≤ 140737488355328 then
                    if ex then some (.sl h.length 0 (len + k) (len + k) false size, h ++ [.cells ((cs.drop off).take (len * size) ++ src) e], ⟨id :: rd, []⟩)
                    else if e' = e ∧ src.all leafA = true then some (.sl h.length 0 (len + k) (len + k) false size, h.set id .dead ++ [.cells ((cs.drop off).take (len * size) ++ src) e], ⟨rd, [id]⟩)
                    else none
                  else none
                else none
              | _ => none
            | _ => none
        | none => none
      else none
    | _, _, _ => none
  | _, _ => none

/-- The run where it grows. -/
theorem append_grows {P : Program} {w : World} {st xt e : TypeId} {d : TypeDesc} {size bytes : Nat} {z : List AV} {L : LC} (hu : P.underlying st = some (.slice e)) (hd : P.underlying xt = some d) (hdi : isIntD d = false)
    (hs : szA P e = some size) (hb : bytesA P e = some bytes) (hz : zeroA P e = some z) (hzl : z.length = size) (hb0 : bytes ≠ 0) {base : Option Addr} {n c k : Nat} {x : Value} (ty : TypeId)
    (hlen : (Builtin.lenOf x).run P w = .ok k w) (hgrow : c < n + k) (hroom : (n + k) * bytes ≤ 140737488355328)
    {old src : Array Value} (hold : (Builtin.firstCells size n (.slice base n c)).run P (drawnTo w (w.drawn + 1)) = .ok old (drawnTo w (w.drawn + 1))) (hsrc : (Builtin.firstCells size k x).run P (drawnTo w (w.drawn + 1)) = .ok src (drawnTo w (w.drawn + 1)))
    {cs : List AV} (hr : RVs L cs (old ++ src).toList) (hcs : cs.length = (n + k) * size) :
    ∃ cap row, (Builtin.append_ #[st, xt] ty #[.slice base n c, x]).run P w = .ok (.slice (some ⟨w.heap.size, 0, none⟩) (n + k) cap) (pushed (drawnTo w (w.drawn + 1)) (.cells row e)) ∧ n + k ≤ cap ∧ row.size = cap * size ∧ RVs L cs (row.toList.take cs.length) := by
  obtain ⟨zv, hzr, hzc⟩ := zeroA_run hz (drawnTo w (w.drawn + 1)) L
  obtain ⟨i, hi, hib⟩ := typeInfo_bytes hb w
  obtain ⟨i2, hi2, hib2⟩ := typeInfo_bytes hb (drawnTo w (w.drawn + 1))
  have hzs : zv.cells.size = size := by rw [← hzc.size, hzl]
  have hneed : n + k ≤ 140737488355328 := Nat.le_trans (Nat.le_mul_of_pos_right _ (by omega)) hroom
  have hfits := growslice_fits (need := n + k) (old := c) (bytes := bytes) hgrow hroom
  have h1 : ¬ (n + k ≤ c) := by omega
  have hm : IntKind.i64.max = 9223372036854775807 := by decide
  have h2 : ¬ (((n + k : Nat) : Int) > IntKind.i64.max) := by rw [hm]; omega
  have h3 : ¬ (Builtin.nextslicecap (n + k) c * i.bytes > 2 ^ 48) := by rw [hib]; omega
  let t := w.tape w.drawn (.appendCap (n + k) c e)
  let cap := n + k + t % (2 ^ 63 - (n + k))
  have hq : (Question.appendCap (n + k) c e).forced = false := rfl
  have hcut : (Question.appendCap (n + k) c e).cut t = cap := rfl
  refine ⟨cap, old ++ src ++ Builtin.zeroCells zv.cells (cap - (n + k)), ?_, Nat.le_add_right _ _, ?_, ?_⟩
  · simp only [Builtin.append_, Sem.run_bind]
    simp only [List.getElem?_toArray, List.getElem?_cons_zero, List.getElem?_cons_succ, Sem.run_bind, run_underlying hu, run_underlying hd, Result.andThen_ok, run_sizeOf' w hs, Sem.run_pure]
    cases d <;> simp only [isIntD, reduceCtorEq, Bool.true_eq_false] at hdi
    all_goals
      simp only [Bool.false_eq_true, if_false, Sem.run_ite, Sem.run_bind, hlen, Result.andThen_ok, if_neg h1, h2, false_and, false_or, hi, h3, run_choose, hq, hcut, run_askRoom, Bool.not_false, if_true, Sem.run_pure]
      have e1 : ({ w with drawn := w.drawn + 1 } : World) = drawnTo w (w.drawn + 1) := rfl
      simp only [e1, hi2, Result.andThen_ok, hold, hsrc, hzr, newRow, Sem.run_bind, run_newObj, Sem.run_pure]
      rfl
  · have : (old ++ src).size = (n + k) * size := by rw [← hr.size, hcs]
    rw [Array.size_append, this]
    simp only [Builtin.zeroCells, Array.size_map, Array.size_range, hzs]
    rw [← Nat.add_mul]
    congr 1
    omega
  · have hl := hr.length
    rw [Array.toList_append, List.take_append_of_le_length (by omega), List.take_of_length_le (by omega)]
    exact hr

/-- The run where nothing is appended. -/
theorem append_none {P : Program} {w : World} {st xt e : TypeId} {d : TypeDesc} {size : Nat} (hu : P.underlying st = some (.slice e)) (hd : P.underlying xt = some d) (hdi : isIntD d = false) (hs : szA P e = some size)
    {base : Option Addr} {n c : Nat} (hn : n ≤ c) {x : Value} (ty : TypeId) (hlen : (Builtin.lenOf x).run P w = .ok 0 w) {src : Array Value} (hsrc : (Builtin.firstCells size 0 x).run P w = .ok src w) (h0 : src.size = 0) :
    (Builtin.append_ #[st, xt] ty #[.slice base n c, x]).run P w = .ok (.slice base n c) w := by
  have hsrc' : src = #[] := Array.eq_empty_of_size_eq_zero h0
  subst hsrc'
  simp only [Builtin.append_, Sem.run_bind]
  simp only [List.getElem?_toArray, List.getElem?_cons_zero, List.getElem?_cons_succ, Sem.run_bind, run_underlying hu, run_underlying hd, Result.andThen_ok, run_sizeOf' w hs, Sem.run_pure]
  cases d <;> simp only [isIntD, reduceCtorEq, Bool.true_eq_false] at hdi
  all_goals
    simp only [Bool.false_eq_true, if_false, Sem.run_ite, Sem.run_bind, hlen, Result.andThen_ok, Nat.add_zero, if_pos hn, Bool.not_false, if_true, hsrc, Sem.run_pure]
    cases base <;> simp [storeCells]
/-- The run where it fits. -/
theorem append_fits {P : Program} {w w' : World} {st xt e : TypeId} {d : TypeDesc} {size : Nat} (hu : P.underlying st = some (.slice e)) (hd : P.underlying xt = some d) (hdi : isIntD d = false) (hs : szA P e = some size)
    {b o n c k : Nat} (hn : n + k ≤ c) {x : Value} (ty : TypeId) (hlen : (Builtin.lenOf x).run P w = .ok k w) {src : Array Value} (hsrc : (Builtin.firstCells size k x).run P w = .ok src w)
    (hst : (storeCells ⟨b, o + n * size, none⟩ src.toList 0).run P w = .ok () w') :
    (Builtin.append_ #[st, xt] ty #[.slice (some ⟨b, o, none⟩) n c, x]).run P w = .ok (.slice (some ⟨b, o, none⟩) (n + k) c) w' := by
  simp only [Builtin.append_, Sem.run_bind]
  simp only [List.getElem?_toArray, List.getElem?_cons_zero, List.getElem?_cons_succ, Sem.run_bind, run_underlying hu, run_underlying hd, Result.andThen_ok, run_sizeOf' w hs, Sem.run_pure]
  cases d <;> simp only [isIntD, reduceCtorEq, Bool.true_eq_false] at hdi
  all_goals
    simp only [Bool.false_eq_true, if_false, Sem.run_ite, Sem.run_bind, hlen, Result.andThen_ok, if_pos hn, Bool.not_false, if_true, hsrc, Sem.run_pure, add_plain, hst]

theorem Stp.of_drawn {fp : Nat → Prop} {L L' : LC} {h h' : Heap} {w w' : World} {n : Nat} (t : Stp fp L h (drawnTo w n) L' h' w') : Stp fp L h w L' h' w' :=
  ⟨t.le, ⟨t.fr.os, t.fr.tape, t.fr.output, t.fr.size, t.fr.keep⟩, t.len, t.same, t.keepρ, t.newρ, t.newdead, t.newm, t.sat⟩
theorem Stp.wider {fp fp' : Nat → Prop} {L L' : LC} {h h' : Heap} {w w' : World} {fp0 : Nat → Prop} (s : SatOn fp0 L h w) (t : Stp fp L h w L' h' w') (hw : ∀ id, fp id → fp' id) (h0 : ∀ id, fp' id → fp0 id) : Stp fp' L h w L' h' w' := by
  refine ⟨t.le, ⟨t.fr.os, t.fr.tape, t.fr.output, t.fr.size, fun b hb hn => t.fr.keep b hb fun id p f => hn id p (hw id f)⟩, t.len, fun id hid hn => t.same id hid fun f => hn (hw id f), fun id p e => (t.keepρ id p e).imp (fun x => x) fun ⟨f, d⟩ => ⟨hw id f, d⟩,
    fun id p e => (t.newρ id p e).imp (fun x => x) fun ⟨hl, k⟩ => ⟨hl, k.imp (fun x => x) fun ⟨i, q, f, r⟩ => ⟨i, q, hw i f, r⟩⟩, fun id d => (t.newdead id d).imp (fun x => x) fun k => k.imp (fun q => ⟨hw id q.1, q.2⟩) (fun x => x), fun b c e => (t.newm b c e).imp (fun x => x) (fun k => k.imp (fun x => x) fun ⟨i, q, f, r⟩ => ⟨i, q, hw i f, r⟩), ?_⟩
  refine ⟨t.sat.imm, t.sat.lt, t.sat.big, t.sat.not_m, t.sat.alive, fun id p f e => ?_, t.sat.inj, t.sat.dead_lt, fun id d f => ?_⟩
  · by_cases k : fp id ∨ h.length ≤ id
    · exact t.sat.blk id p k e
    · obtain ⟨hlt, hnf⟩ := lt_of_not_ge' k
      have hf : fp' id := f.resolve_right (by omega)
      have e0 : L.ρ id = some p := (t.newρ id p e).resolve_right (fun q => by omega)
      rw [t.same id hlt hnf]
      refine BlkR.mono t.le (t.fr.keep p.b (s.big _ _ e0) fun i q fi ei hb => ?_) (s.blk id p (h0 id hf) e0)
      have := s.inj _ _ _ _ ei e0 hb
      exact hnf (this ▸ fi)
  · by_cases k : fp id ∨ h.length ≤ id
    · exact t.sat.dead id d k
    · obtain ⟨hlt, hnf⟩ := lt_of_not_ge' k
      have hf : fp' id := f.resolve_right (by omega)
      rcases t.newdead id d with d0 | ⟨d0, _⟩ | d0
      · rw [t.same id hlt hnf]; exact s.dead id d0 (h0 id hf)
      · exact absurd d0 hnf
      · omega

theorem appendA_run {P : Program} {fp : Nat → Prop} {L : LC} {h h' : Heap} {w : World} (s : SatOn fp L h w) {st xt : TypeId} {x y z : AV} {eff : Eff} (e : appendA P h st xt x y = some (z, h', eff)) (hfp : ∀ id, eff.fp id → fp id) {v u : Value} (hx : RV L x v) (hy : RV L y u) (ty : TypeId) :
    ∃ r w' L', (Builtin.append_ #[st, xt] ty #[v, u]).run P w = .ok r w' ∧ Stp (fun id => id ∈ eff.wr) L h w L' h' w' ∧ RV L' z r := by
  unfold appendA at e
  split at e
  case h_2 => cases e
  rename_i te d hu hd
  by_cases hdi : isIntD d = true
  · rw [if_pos hdi] at e; cases e
  rw [if_neg hdi] at e
  have hdi : isIntD d = false := by simpa using hdi
  split at e
  case h_2 => cases e
  rename_i size bytes zc hs hb hz
  by_cases hcnd : zc.length = size ∧ size ≠ 0 ∧ bytes ≠ 0
  case neg => rw [if_neg hcnd] at e; cases e
  rw [if_pos hcnd] at e
  obtain ⟨hzl, hs0, hb0⟩ := hcnd
  cases hsrc : srcA h size y with
  | none => simp [hsrc] at e
  | some q =>
    obtain ⟨src, k, rd⟩ := q
    simp only [hsrc] at e
    have hrd : eff.rd = rd ∨ ∃ id, eff.rd = id :: rd := by
      by_cases hk : k = 0
      · rw [if_pos hk] at e
        split at e <;> cases e <;> exact .inl rfl
      · rw [if_neg hk] at e
        split at e
        · split at e <;> cases e; exact .inl rfl
        · split at e <;> cases e; exact .inl rfl
        · split at e
          · split at e
            · split at e
              · split at e <;> cases e; exact .inl rfl
              · split at e
                · split at e
                  · cases e; exact .inr ⟨_, rfl⟩
                  · split at e <;> cases e; exact .inl rfl
                · cases e
            · cases e
          · cases e
        · cases e
    have hrd' : ∀ id ∈ rd, fp id := fun id hid => hfp id (.inl (by
      rcases hrd with e | ⟨i, e⟩ <;> rw [e]
      · exact hid
      · exact List.mem_cons_of_mem _ hid))
    obtain ⟨hlen, hcl, hcells⟩ := srcA_run s hsrc hrd' hy
    obtain ⟨src0, hsrc0, hr0⟩ := hcells w.drawn (.inl rfl)
    obtain ⟨src1, hsrc1, hr1⟩ := hcells (w.drawn + 1) (.inr rfl)
    have hsrc0' : (Builtin.firstCells size k u).run P w = .ok src0 w := hsrc0
    by_cases hk : k = 0
    · rw [if_pos hk] at e
      subst hk
      have h0 : src0.size = 0 := by rw [← hr0.size, hcl]; simp
      have same : ∀ base n c, n ≤ c → v = .slice base n c → RV L z (.slice base n c) → h' = h → eff = ⟨rd, []⟩ → ∃ r w' L', (Builtin.append_ #[st, xt] ty #[v, u]).run P w = .ok r w' ∧ Stp (fun id => id ∈ eff.wr) L h w L' h' w' ∧ RV L' z r := by
        intro base n c hn hv hz1 e1 e2
        subst hv; subst e1; subst e2
        exact ⟨_, w, L, append_none hu hd hdi hs hn ty hlen hsrc0' h0, Stp.none s _ (fun id hid => hfp id (.inr hid)), hz1⟩
      split at e <;> cases e
      · simp only [RV] at hx
        exact same none 0 0 (Nat.le_refl _) hx (by simp [RV]) rfl rfl
      · have hx' := hx
        simp only [RV] at hx
        obtain ⟨a, c', hv, hn, _⟩ := hx
        exact same (some a) _ c' hn hv (hv ▸ hx') rfl rfl
      · have hx' := hx
        simp only [RV] at hx
        obtain ⟨p, c', hp, hv, h1, h2, _⟩ := hx
        exact same _ _ c' (by omega) hv (hv ▸ hx') rfl rfl
    · rw [if_neg hk] at e
      -- a new block, of what lay there and what is appended
      have grow : ∀ (base : Option Addr) (n c : Nat) (old : List AV), c < n + k → (n + k) * bytes ≤ 140737488355328 → old.length = n * size → v = .slice base n c →
          (∃ vs, (Builtin.firstCells size n v).run P (drawnTo w (w.drawn + 1)) = .ok vs (drawnTo w (w.drawn + 1)) ∧ RVs L old vs.toList) →
          ∃ cap row, (Builtin.append_ #[st, xt] ty #[v, u]).run P w = .ok (.slice (some ⟨w.heap.size, 0, none⟩) (n + k) cap) (pushed (drawnTo w (w.drawn + 1)) (.cells row te)) ∧ n + k ≤ cap ∧ row.size = cap * size ∧
            RVs L (old ++ src) (row.toList.take (old ++ src).length) ∧ (old ++ src).length = (n + k) * size := by
        intro base n c old hg hroom hol hv hold
        obtain ⟨vs, h1, h2⟩ := hold
        subst hv
        have hl : (old ++ src).length = (n + k) * size := by rw [List.length_append, hol, hcl, Nat.add_mul]
        obtain ⟨cap, row, h3, h4, h5, h6⟩ := append_grows hu hd hdi hs hb hz hzl hb0 ty hlen hg hroom h1 hsrc1 (by rw [Array.toList_append]; exact h2.append hr1) hl
        exact ⟨cap, row, h3, h4, h5, h6, hl⟩
      -- and the step of it, where the old block stays
      have fresh : ∀ (n c : Nat) (base : Option Addr) (old : List AV), c < n + k → (n + k) * bytes ≤ 140737488355328 → old.length = n * size → v = .slice base n c →
          (∃ vs, (Builtin.firstCells size n v).run P (drawnTo w (w.drawn + 1)) = .ok vs (drawnTo w (w.drawn + 1)) ∧ RVs L old vs.toList) →
          z = .sl h.length 0 (n + k) (n + k) false size → h' = h ++ [.cells (old ++ src) te] →
          ∃ r w' L', (Builtin.append_ #[st, xt] ty #[v, u]).run P w = .ok r w' ∧ Stp (fun id => id ∈ eff.wr) L h w L' h' w' ∧ RV L' z r := by
        intro n c base old hg hroom hol hv hold e1 e2
        obtain ⟨cap, row, h3, h4, h5, h6, hl⟩ := grow base n c old hg hroom hol hv hold
        subst e1; subst e2
        have hle : (n + k) * size ≤ cap * size := Nat.mul_le_mul_right _ h4
        have st := Stp.fresh (s.drawn (w.drawn + 1)) (fun id => id ∈ eff.wr) (fun id hid => hfp id (.inr hid)) (.cells row te) (.cells (old ++ src) te) row.size
          (fun L' hL => ⟨row, pushed_new, rfl, by simp only [Nat.zero_add]; omega, by simpa using RVs.mono hL _ _ h6⟩)
        refine ⟨_, _, _, h3, st.of_drawn, _, cap, .inr new_ρ, rfl, h4, Nat.le_refl _, fun e => by simp at e, ?_⟩
        simp only [Nat.zero_add]
        omega
      split at e
      · -- nil
        split at e
        case isFalse => cases e
        rename_i hroom
        cases e
        simp only [RV] at hx
        exact fresh 0 0 none [] (by omega) (by rw [Nat.zero_add]; exact hroom) (by simp) hx ⟨#[], by rw [hx]; simp [Builtin.firstCells], by simp [RVs]⟩ (by simp) (by simp)
      · -- into memory that never changes, full
        rename_i xs n c
        split at e
        case isFalse => cases e
        rename_i hc
        obtain ⟨hg, hxl, hroom⟩ := hc
        cases e
        have hx' := hx
        simp only [RV] at hx
        obtain ⟨a, c', hv, hn, hcc, hm⟩ := hx
        have : c' = c := hcc c rfl
        subst this
        have hsx : srcA h size (.vsl xs n (some c')) = some (xs, n, []) := by simp [srcA, hxl]
        obtain ⟨_, _, h2⟩ := srcA_run s hsx (fun _ hi => by cases hi) hx'
        exact fresh n c' (some a) xs hg hroom hxl hv (h2 _ (.inr rfl)) rfl rfl
      · rename_i id off len lo ex es
        split at e
        case h_2 => cases e
        rename_i cs e' hbk
        split at e
        case isFalse => cases e
        rename_i hc
        obtain ⟨rfl, hoff⟩ := hc
        have hx' := hx
        simp only [RV] at hx
        obtain ⟨p, cap, hp, hv, hlo, hll, hex, hfit⟩ := hx
        have hsx : srcA h es (.sl id off len lo ex es) = some ((cs.drop off).take (len * es), len, [id]) := by
          simp only [srcA, cellsAt, hbk]
          rw [if_pos hoff]
        split at e
        · -- it fits
          rename_i hfits
          split at e
          case isFalse => cases e
          rename_i hc
          obtain ⟨hoff2, hleaf⟩ := hc
          cases e
          have hf : fp id := hfp id (.inr (by simp))
          rcases hp with hp | hp
          · have := s.dead id hp hf; rw [hbk] at this; cases this
          have hblk := s.blk id p hf hp
          rw [hbk] at hblk
          obtain ⟨c, h1, h2, h3, h4⟩ := hblk
          have hadd : (len + k) * es = len * es + k * es := Nat.add_mul ..
          have hss : src0.toList.length = k * es := by rw [← hr0.length, hcl]
          obtain ⟨w', c', hr, ht, hsz, hc'⟩ := storeCells_run (P := P) (o := p.o + off + len * es) src0.toList 0 c w h1 (by omega) (leaves_rel hleaf hr0)
          refine ⟨_, w', L, by rw [hv]; exact append_fits hu hd hdi hs (by omega) ty hlen hsrc0' hr, ?_, ?_⟩
          · refine Stp.write s _ (fun i hi => hfp i (.inr hi)) id (by simp) p hp (.cells (setAll cs (off + len * es) src) e') ht.os ht.tape ht.output ht.size ht.keep ⟨c', ht.here, by omega, by rw [setAll_length]; exact h3, ?_⟩
            rw [hc', setAll_length, Nat.add_zero, Nat.add_assoc, setAll_drop, setAll_take]
            exact hr0.setAll _ h4
          · exact ⟨p, cap, .inr hp, rfl, hlo, by omega, hex, hfit⟩
        · rename_i hnofit
          split at e
          case isFalse => cases e
          rename_i hroom
          split at e
          · -- it can't fit: a new block
            rename_i hext
            cases e
            have hcap := hex hext
            obtain ⟨_, hcl2, h2⟩ := srcA_run s hsx (fun i hi => hfp i (.inl (by simp at hi; simp [hi]))) hx'
            exact fresh len cap _ ((cs.drop off).take (len * es)) (by omega) hroom hcl2 hv (h2 _ (.inr rfl)) rfl rfl
          · rename_i hext
            split at e
            case isFalse => cases e
            rename_i hc
            obtain ⟨rfl, hleaf⟩ := hc
            cases e
            have hf : fp id := hfp id (.inr (by simp))
            rcases hp with hp | hp
            · have := s.dead id hp hf; rw [hbk] at this; cases this
            have hblk := s.blk id p hf hp
            rw [hbk] at hblk
            obtain ⟨c, h1, h2, h3, h4⟩ := hblk
            have hss : src0.toList.length = k * es := by rw [← hr0.length, hcl]
            have hadd : (len + k) * es = len * es + k * es := Nat.add_mul ..
            obtain ⟨_, hcl2, hold⟩ := srcA_run s hsx (fun i hi => by simp at hi; rw [hi]; exact hf) hx'
            have hl : ((cs.drop off).take (len * es) ++ src).length = (len + k) * es := by rw [List.length_append, hcl2, hcl, Nat.add_mul]
            by_cases hroom2 : len + k ≤ cap
            · -- in place
              have hle : (len + k) * es ≤ cap * es := Nat.mul_le_mul_right _ hroom2
              have hcsz : c.toList.length = c.size := Array.length_toList
              obtain ⟨w', c', hr, ht, hsz, hc'⟩ := storeCells_run (P := P) (o := p.o + off + len * es) src0.toList 0 c w h1 (by omega) (leaves_rel hleaf hr0)
              have mv := Stp.move s _ (fun i hi => hfp i (.inr hi)) id (by simp) p hp (.cells ((cs.drop off).take (len * es) ++ src) e') ⟨p.b, p.o + off, p.n⟩ ht.os ht.tape ht.output (by rw [ht.size]; exact Nat.le_refl _) (fun b _ hb => ht.keep b hb) (.inl rfl)
                (fun L' hL => by
                  refine ⟨c', ht.here, by simp only; omega, by simp only; omega, ?_⟩
                  simp only
                  have hwin := setAll_window c.toList src0.toList (p.o + off) (len * es) (by omega)
                  rw [hc', Nat.add_zero, hl, hadd, ← hss, hwin]
                  refine RVs.mono hL _ _ (RVs.append ?_ hr0)
                  have := (h4.drop off).take (len * es)
                  rw [List.drop_take, List.take_take, List.drop_drop, Nat.min_eq_left (by omega)] at this
                  exact this)
              refine ⟨_, w', _, by rw [hv]; exact append_fits hu hd hdi hs hroom2 ty hlen hsrc0' hr, mv.2, ?_⟩
              refine ⟨⟨p.b, p.o + off, p.n⟩, cap, .inr (by simp [LC.move]), by simp, hroom2, Nat.le_refl _, fun e => by simp at e, ?_⟩
              simp only [Nat.add_zero]
              exact hfit
            · -- in a new one
              obtain ⟨cap', row, h5, h6, h7, h8, _⟩ := grow _ len cap ((cs.drop off).take (len * es)) (by omega) hroom hcl2 hv (hold _ (.inr rfl))
              have hle : (len + k) * es ≤ cap' * es := Nat.mul_le_mul_right _ h6
              have hsize : (pushed (drawnTo w (w.drawn + 1)) (.cells row e')).heap.size = w.heap.size + 1 := by simp [pushed, drawnTo]
              have mv := Stp.move (s.drawn (w.drawn + 1)) _ (fun i hi => hfp i (.inr hi)) id (by simp) p hp (.cells ((cs.drop off).take (len * es) ++ src) e') ⟨w.heap.size, 0, row.size⟩ (w' := pushed (drawnTo w (w.drawn + 1)) (.cells row e')) rfl rfl rfl
                (by rw [hsize]; exact Nat.le_succ _) (fun b hb _ => pushed_old hb) (.inr ⟨Nat.le_refl _, by rw [hsize]; exact Nat.lt_succ_self _⟩)
                (fun L' hL => ⟨row, pushed_new, rfl, by simp only [Nat.zero_add]; omega, by simpa using RVs.mono hL _ _ h8⟩)
              refine ⟨_, _, _, h5, mv.2.of_drawn, ?_⟩
              refine ⟨⟨w.heap.size, 0, row.size⟩, cap', .inr (by simp [LC.move]), rfl, h6, Nat.le_refl _, fun e => by simp at e, ?_⟩
              simp only [Nat.zero_add]
              omega
      · cases e
/-- append to a slice that fills all that is known of its block: told alike whatever is appended. -/
def appendV (P : Program) (h : Heap) (st xt : TypeId) (id len es : Nat) (x : AV) : Option (AV × Heap × Eff) :=
  match P.underlying st, P.underlying xt with
  | some (.slice e), some d =>
    if isIntD d then none else
    match szA P e, bytesA P e, zeroA P e with
    | some size, some bytes, some z =>
      if z.length = size ∧ size ≠ 0 ∧ bytes ≠ 0 ∧ es = size then match srcA h size x, h[id]? with
        | some (src, k, rd), some (.cells cs e') =>
          if e' = e ∧ cs.length = len * size ∧ src.all leafA = true ∧ (len + k) * bytes ≤ 140737488355328 then
            some (.sl h.length 0 (len + k) (len + k) false size, h.set id .dead ++ [.cells (cs ++ src) e], ⟨rd, [id]⟩) else none
        | _, _ => none
      else none
    | _, _, _ => none
  | _, _ => none
def appendU (P : Program) (h : Heap) (st xt : TypeId) (s x : AV) : Option (AV × Heap × Eff) :=
  match s with
  | .sl id off len lo ex es => if off = 0 ∧ lo = len ∧ (ex = false ∨ len = 0) then
      match appendV P h st xt id len es x with
      | some r => some r
      | none => appendA P h st xt (.sl id off len lo ex es) x
    else appendA P h st xt (.sl id off len lo ex es) x
  | s => appendA P h st xt s x
theorem appendV_run {P : Program} {fp : Nat → Prop} {L : LC} {h h' : Heap} {w : World} (s : SatOn fp L h w) {st xt : TypeId} {id len es : Nat} {ex : Bool} {y z : AV} {eff : Eff} (e : appendV P h st xt id len es y = some (z, h', eff)) (hfp : ∀ id, eff.fp id → fp id) {v u : Value}
    (hx : RV L (.sl id 0 len len ex es) v) (hy : RV L y u) (ty : TypeId) :
    ∃ r w' L', (Builtin.append_ #[st, xt] ty #[v, u]).run P w = .ok r w' ∧ Stp (fun id => id ∈ eff.wr) L h w L' h' w' ∧ RV L' z r := by
  have hx' : RV L (.sl id 0 len len false es) v := by
    simp only [RV] at hx ⊢
    obtain ⟨p, c, h1, h2, h3, h4, _, h6⟩ := hx
    exact ⟨p, c, h1, h2, h3, h4, fun e => by simp at e, h6⟩
  have e0 := e
  unfold appendV at e
  split at e
  case h_2 => cases e
  rename_i te d hu hd
  by_cases hdi : isIntD d = true
  · rw [if_pos hdi] at e; cases e
  rw [if_neg hdi] at e
  have hdi : isIntD d = false := by simpa using hdi
  split at e
  case h_2 => cases e
  rename_i size bytes zc hs hb hz
  by_cases hcnd : zc.length = size ∧ size ≠ 0 ∧ bytes ≠ 0 ∧ es = size
  case neg => rw [if_neg hcnd] at e; cases e
  rw [if_pos hcnd] at e
  obtain ⟨hzl, hs0, hb0, rfl⟩ := hcnd
  split at e
  case h_2 => cases e
  rename_i src k rd cs e' hsrc hbk
  split at e
  case isFalse => cases e
  rename_i hc
  obtain ⟨rfl, hcl, hleaf, hroom⟩ := hc
  cases e
  by_cases hk : k = 0
  · subst hk
    have hrd' : ∀ id ∈ rd, fp id := fun id hid => hfp id (.inl hid)
    obtain ⟨hlen, hsl, hcells⟩ := srcA_run s hsrc hrd' hy
    obtain ⟨src0, hsrc0, hr0⟩ := hcells w.drawn (.inl rfl)
    have hsrc0' : (Builtin.firstCells es 0 u).run P w = .ok src0 w := hsrc0
    have h0 : src0.size = 0 := by rw [← hr0.size, hsl]; simp
    have hse : src = [] := List.length_eq_zero_iff.1 (by rw [hsl]; simp)
    subst hse
    simp only [RV] at hx'
    obtain ⟨p, cap, hp, hv, hlo, hll, hex, hfit⟩ := hx'
    have hf : fp id := hfp id (.inr (by simp))
    rcases hp with hp | hp
    · have := s.dead id hp hf; rw [hbk] at this; cases this
    have hblk := s.blk id p hf hp
    rw [hbk] at hblk
    have mv := Stp.move s (fun i => i ∈ [id]) (fun i hi => hfp i (.inr hi)) id (by simp) p hp (.cells cs e') p rfl rfl rfl (Nat.le_refl _) (fun b _ _ => rfl) (.inl rfl) (fun L' hL => BlkR.mono hL rfl hblk)
    refine ⟨v, w, L.move id h.length p, by rw [hv]; exact append_none hu hd hdi hs hlo ty hlen hsrc0' h0, ?_, ?_⟩
    · rw [List.append_nil]; exact mv.2
    · exact ⟨p, cap, .inr (by simp [LC.move]), hv, hlo, Nat.le_refl _, fun e => by simp at e, hfit⟩
  · refine appendA_run (x := .sl id 0 len len false es) s ?_ hfp hx' hy ty
    have h2 : ¬ (len + k ≤ len) := by omega
    have h3 : List.take (len * es) (List.drop 0 cs) = cs := by rw [List.drop_zero, ← hcl, List.take_length]
    simp only [appendA, hu, hd, hdi, hs, hb, hz, if_pos (show zc.length = es ∧ es ≠ 0 ∧ bytes ≠ 0 from ⟨hzl, hs0, hb0⟩), hsrc, if_neg hk, hbk, hcl, if_neg h2, if_pos hroom, hleaf, Bool.false_eq_true, if_false, Nat.zero_add, Nat.le_refl, and_self, if_true, h3]
theorem appendU_run {P : Program} {fp : Nat → Prop} {L : LC} {h h' : Heap} {w : World} (s : SatOn fp L h w) {st xt : TypeId} {x y z : AV} {eff : Eff} (e : appendU P h st xt x y = some (z, h', eff)) (hfp : ∀ id, eff.fp id → fp id) {v u : Value} (hx : RV L x v) (hy : RV L y u) (ty : TypeId) :
    ∃ r w' L', (Builtin.append_ #[st, xt] ty #[v, u]).run P w = .ok r w' ∧ Stp (fun id => id ∈ eff.wr) L h w L' h' w' ∧ RV L' z r := by
  unfold appendU at e
  split at e
  · rename_i id off len lo ex es
    split at e
    · rename_i hc
      obtain ⟨rfl, rfl, _⟩ := hc
      split at e
      · rename_i r hr
        cases e
        exact appendV_run s hr hfp hx hy ty
      · exact appendA_run s e hfp hx hy ty
    · exact appendA_run s e hfp hx hy ty
  · exact appendA_run s e hfp hx hy ty
end Go.Proofs.YtgcdpdkccaabcaaGreat.Ev
