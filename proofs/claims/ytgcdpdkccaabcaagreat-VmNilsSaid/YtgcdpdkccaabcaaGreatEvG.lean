/- What makes and writes memory. Conditions: none (definitions and lemmas). -/
import Derived.Test.YtgcdpdkccaabcaaGreatEvF
import Derived.Laws.Append
namespace Go.Proofs.YtgcdpdkccaabcaaGreat.Ev
open Go
set_option linter.unusedVariables false
set_option linter.unusedSimpArgs false
set_option linter.unusedSectionVars false

/-! ### lists laid over lists -/
theorem setAll_eq {α : Type} (vs : List α) : ∀ (l : List α) (o : Nat), o + vs.length ≤ l.length → setAll l o vs = l.take o ++ vs ++ l.drop (o + vs.length) := by
  induction vs with
  | nil => intro l o _; simp [setAll]
  | cons v vs ih =>
    intro l o h
    simp only [List.length_cons] at h
    have ho : o < l.length := by omega
    rw [setAll, ih _ _ (by simp; omega)]
    have e1 : (l.set o v).take (o + 1) = l.take o ++ [v] := by
      rw [List.take_add_one, List.take_set_of_le (Nat.le_refl _)]
      simp [ho]
    have e2 : (l.set o v).drop (o + 1 + vs.length) = l.drop (o + (v :: vs).length) := by
      rw [List.drop_set_of_lt (by omega)]
      congr 1
      simp only [List.length_cons]; omega
    rw [e1, e2]
    simp
theorem setAll_window {α : Type} (l vs : List α) (o j : Nat) (h : o + j + vs.length ≤ l.length) : ((setAll l (o + j) vs).drop o).take (j + vs.length) = (l.drop o).take j ++ vs := by
  rw [setAll_eq vs l (o + j) h]
  have e1 : l.take (o + j) = l.take o ++ (l.drop o).take j := by rw [List.take_add]
  have hl : (l.take o).length = o := by simp; omega
  have hj : ((l.drop o).take j).length = j := by simp; omega
  rw [e1, List.append_assoc, List.append_assoc, List.drop_append_of_le_length (by omega)]
  rw [show (l.take o).drop o = [] from by rw [List.drop_eq_nil_iff]; omega, List.nil_append, ← List.append_assoc]
  rw [List.take_append_of_le_length (by simp; omega)]
  rw [List.take_of_length_le (by simp; omega)]

theorem setAll_take {α : Type} (vs : List α) : ∀ (l : List α) (o n : Nat), (setAll l o vs).take n = setAll (l.take n) o vs := by
  induction vs with
  | nil => intro l o n; rfl
  | cons v vs ih => intro l o n; rw [setAll, setAll, ih, List.take_set]
theorem setAll_drop {α : Type} (vs : List α) : ∀ (l : List α) (o i : Nat), (setAll l (o + i) vs).drop o = setAll (l.drop o) i vs := by
  induction vs with
  | nil => intro l o n; rfl
  | cons v vs ih =>
    intro l o i
    rw [setAll, setAll, Nat.add_assoc, ih, List.drop_set]
    rw [if_neg (by omega)]
    congr 2
    omega

/-! ### the world, one block turned -/
structure Turned (w w' : World) (b : Nat) (x : Obj) : Prop where
  os : w'.os = w.os
  tape : w'.tape = w.tape
  output : w'.output = w.output
  size : w'.heap.size = w.heap.size
  keep : ∀ b', b' ≠ b → w'.heap[b']? = w.heap[b']?
  here : w'.heap[b]? = some x
theorem Turned.refl {w : World} {b : Nat} {x : Obj} (h : w.heap[b]? = some x) : Turned w w b x := ⟨rfl, rfl, rfl, rfl, fun _ _ => rfl, h⟩
theorem Turned.trans {w1 w2 w3 : World} {b : Nat} {x y : Obj} (h : Turned w1 w2 b x) (k : Turned w2 w3 b y) : Turned w1 w3 b y :=
  ⟨k.os.trans h.os, k.tape.trans h.tape, k.output.trans h.output, k.size.trans h.size, fun b' hb => (k.keep b' hb).trans (h.keep b' hb), k.here⟩
theorem setCell_turned {w : World} {b : Nat} {c : Array Value} {e : TypeId} (h : w.heap[b]? = some (.cells c e (0, 0))) (i : Nat) (v : Value) :
    Turned w (w.setCell ⟨b, i, none⟩ v) b (.cells (c.setIfInBounds i v) e (0, 0)) := by
  have hb := lt_of_heap h
  have hc : w.heap[b] = .cells c e (0, 0) := (Array.getElem?_eq_some_iff.1 h).2
  refine ⟨rfl, rfl, rfl, by simp [World.setCell], fun b' hb' => ?_, ?_⟩
  · simp only [World.setCell, Array.getElem?_modify]
    rw [if_neg (Ne.symm hb')]
  · simp only [World.setCell, Array.getElem?_modify, if_true, h, Option.map_some]
    rfl
theorem storeCells_run {P : Program} {b o : Nat} {e : TypeId} : ∀ (vs : List Value) (i : Nat) (c : Array Value) (w : World), w.heap[b]? = some (.cells c e (0, 0)) → o + i + vs.length ≤ c.size → (∀ v ∈ vs, v.oneCell' = true) →
    ∃ w' c', (storeCells ⟨b, o, none⟩ vs i).run P w = .ok () w' ∧ Turned w w' b (.cells c' e (0, 0)) ∧ c'.size = c.size ∧ c'.toList = setAll c.toList (o + i) vs := by
  intro vs
  induction vs with
  | nil => intro i c w h _ _; exact ⟨w, c, rfl, .refl h, rfl, rfl⟩
  | cons v vs ih =>
    intro i c w h hl h1
    simp only [List.length_cons] at hl
    have hv := h1 v (by simp)
    have hcell : w.cell? ⟨b, o + i, none⟩ = some c[o + i] := by
      have : o + i < c.size := by omega
      simp [World.cell?, h, this]
    have hfz : w.frozen? ⟨b, o + i, none⟩ = false := by simp [World.frozen?, h]
    have t1 := setCell_turned h (o + i) v
    obtain ⟨w', c', hr, ht, hs, hc⟩ := ih (i + 1) (c.setIfInBounds (o + i) v) (w.setCell ⟨b, o + i, none⟩ v) t1.here (by simp; omega) (fun u hu => h1 u (by simp [hu]))
    refine ⟨w', c', ?_, t1.trans ht, by simpa using hs, ?_⟩
    · simp only [storeCells, Sem.run_bind, add_plain, run_store P w _ v .plain hv, hcell, hfz, Bool.false_eq_true, if_false, Result.andThen_ok]
      exact hr
    · rw [hc]; simp [setAll, Nat.add_assoc]

/-! ### store -/
def storeA (P : Program) (h : Heap) (t : TypeId) (x v : AV) : Option (Heap × Nat) :=
  match x, cellsA v, szA P t with
  | .ptr id off, some vs, some n => match h[id]? with
    | some (.cells cs e) => if vs.length = n ∧ off + n ≤ cs.length ∧ vs.all leafA = true then some (h.set id (.cells (setAll cs off vs) e), id) else none
    | _ => none
  | _, _, _ => none
theorem leaves_rel {L : LC} {vs : List AV} {us : List Value} (h : vs.all leafA = true) (k : RVs L vs us) : ∀ u ∈ us, u.oneCell' = true := by
  intro u hu
  obtain ⟨i, hi, rfl⟩ := List.getElem_of_mem hu
  have hl := k.length
  have hi' : i < vs.length := by omega
  have := List.all_eq_true.1 h vs[i] (List.getElem_mem hi')
  exact leafA_rel this (k.get (List.getElem?_eq_getElem hi') (List.getElem?_eq_getElem hi))
theorem storeA_run {P : Program} {fp : Nat → Prop} {L : LC} {h h' : Heap} {w : World} (s : SatOn fp L h w) {t : TypeId} {x y : AV} {id : Nat} (e : storeA P h t x y = some (h', id)) (hfp : fp id) {v u : Value} (hx : RV L x v) (hy : RV L y u) :
    ∃ w', (Instr.storeAt t v u).run P w = .ok () w' ∧ Stp (fun i => i = id) L h w L h' w' := by
  unfold storeA at e
  split at e
  · rename_i id' off vs n hvs hn
    split at e
    · rename_i cs te hb
      by_cases hc : vs.length = n ∧ off + n ≤ cs.length ∧ vs.all leafA = true
      · rw [if_pos hc] at e
        cases e
        obtain ⟨hl, hoff, hleaf⟩ := hc
        simp only [RV] at hx
        obtain ⟨p, hp, rfl⟩ := hx
        rcases hp with hp | hp
        · have := s.dead id hp hfp; rw [hb] at this; cases this
        · have hblk := s.blk id p hfp hp
          rw [hb] at hblk
          obtain ⟨c, h1, h2, h3, h4⟩ := hblk
          have hcells := cellsA_rel hvs hy
          have hlen := hcells.size
          have hlen2 : u.cells.toList.length = u.cells.size := Array.length_toList
          have hcl : c.toList.length = c.size := Array.length_toList
          obtain ⟨w', c', hr, ht, hs, hc'⟩ := storeCells_run (P := P) (o := p.o + off) u.cells.toList 0 c w h1 (by omega) (leaves_rel hleaf hcells)
          refine ⟨w', ?_, Stp.write s _ (fun i (hi : i = id) => hi ▸ hfp) id rfl p hp (.cells (setAll cs off vs) te) ht.os ht.tape ht.output ht.size ht.keep ⟨c', ht.here, by omega, by rw [setAll_length]; exact h3, ?_⟩⟩
          · have hsz : ¬ u.cells.size ≠ n := by omega
            simp only [Instr.storeAt, Sem.run_bind, Instr.sureAddr, Sem.run_pure, Result.andThen_ok, storeVar, run_sizeOf' w hn, Sem.run_ite]
            rw [if_neg hsz]
            simpa using hr
          · rw [hc', setAll_length, Nat.add_zero]
            rw [setAll_drop, setAll_take]
            exact hcells.setAll off h4
      · rw [if_neg hc] at e; cases e
    · cases e
  · cases e

/-! ### new blocks -/
theorem fresh_cells {P : Program} {fp : Nat → Prop} {L : LC} {h : Heap} {w : World} (s : SatOn fp L h w) {cs : List AV} {c : Array Value} {t : TypeId} (hr : RVs L cs (c.toList.take cs.length)) (hle : cs.length ≤ c.size) :
    Stp (fun _ => False) L h w (L.new h.length ⟨w.heap.size, 0, c.size⟩) (h ++ [.cells cs t]) (pushed w (.cells c t)) :=
  Stp.fresh s _ (fun _ f => f.elim) _ _ _ fun L' hL => ⟨c, pushed_new, rfl, by simpa using hle, by simpa using RVs.mono hL _ _ hr⟩
theorem new_ρ {L : LC} {id : Nat} {p : Pl} : (L.new id p).ρ id = some p := by simp [LC.new]

def allocA (P : Program) (h : Heap) (t : TypeId) : Option (AV × Heap) := (zeroA P t).map fun z => (.ptr h.length 0, h ++ [.cells z t])
theorem allocA_run {P : Program} {fp : Nat → Prop} {L : LC} {h h' : Heap} {w : World} (s : SatOn fp L h w) {t : TypeId} {x : AV} (e : allocA P h t = some (x, h')) :
    ∃ v w' L', (Instr.alloc t true (.tuple #[])).run P w = .ok v w' ∧ Stp (fun _ => False) L h w L' h' w' ∧ RV L' x v := by
  unfold allocA at e
  obtain ⟨z, hz, e⟩ := Option.map_eq_some_iff.1 e
  cases e
  obtain ⟨v, hv, hr⟩ := zeroA_run hz w L
  have hl : z.length = v.cells.size := hr.size
  refine ⟨_, _, _, ?_, fresh_cells (P := P) s (c := v.cells) (by rw [List.take_of_length_le (by simp [hl])]; exact hr) (by omega), ⟨_, .inr new_ρ, rfl⟩⟩
  simp [Instr.alloc, hv, newVar, newRow, pushed]
def boxA (h : Heap) (t : TypeId) (y : AV) : Option (AV × Heap) := (cellsA y).map fun z => (.ptr h.length 0, h ++ [.cells z t])
theorem boxA_run {P : Program} {fp : Nat → Prop} {L : LC} {h h' : Heap} {w : World} (s : SatOn fp L h w) {t : TypeId} {x y : AV} {u : Value} (e : boxA h t y = some (x, h')) (hy : RV L y u) :
    ∃ v w' L', (Instr.box t u).run P w = .ok v w' ∧ Stp (fun _ => False) L h w L' h' w' ∧ RV L' x v := by
  unfold boxA at e
  obtain ⟨z, hz, e⟩ := Option.map_eq_some_iff.1 e
  cases e
  have hr := cellsA_rel hz hy
  have hl : z.length = u.cells.size := hr.size
  refine ⟨_, _, _, ?_, fresh_cells (P := P) s (c := u.cells) (by rw [List.take_of_length_le (by simp [hl])]; exact hr) (by omega), ⟨_, .inr new_ρ, rfl⟩⟩
  simp [Instr.box, newVar, newRow, pushed]

/-- So many zeros. -/
def zerosA (z : List AV) : Nat → List AV
  | 0 => []
  | n + 1 => z ++ zerosA z n
theorem zerosA_length (z : List AV) (n : Nat) : (zerosA z n).length = n * z.length := by
  induction n with
  | zero => simp [zerosA]
  | succ n ih => simp [zerosA, ih, Nat.succ_mul, Nat.add_comm]
theorem zeros_rel {L : LC} {z : List AV} {v : Array Value} (h : RVs L z v.toList) (n : Nat) : RVs L (zerosA z n) ((Array.range (n * v.size)).map fun i => v[i % v.size]!).toList := by
  have hl := h.size
  refine RVs.of_get (by simp [zerosA_length, hl]) ?_
  have key : ∀ (n i : Nat) (x : AV), (zerosA z n)[i]? = some x → ∃ y, v.toList[i % v.size]? = some y ∧ RV L x y := by
    intro n
    induction n with
    | zero => intro i x hx; simp [zerosA] at hx
    | succ n ih =>
      intro i x hx
      simp only [zerosA] at hx
      rcases Nat.lt_or_ge i z.length with k | k
      · rw [List.getElem?_append_left k] at hx
        rw [Nat.mod_eq_of_lt (by omega)]
        exact h.get_some hx
      · rw [List.getElem?_append_right k] at hx
        obtain ⟨y, hy, hz⟩ := ih _ _ hx
        refine ⟨y, ?_, hz⟩
        rw [← hy, hl, ← Nat.mod_eq_sub_mod (by omega)]
  intro i x u hx hu
  obtain ⟨y, hy, hz⟩ := key n i x hx
  have hi : i < n * v.size := by
    have := (List.getElem?_eq_some_iff.1 hu).1
    simpa using this
  simp only [Array.toList_map, Array.toList_range, List.getElem?_map, List.getElem?_range hi, Option.map_some, Option.some.injEq] at hu
  subst hu
  have hy' : v[i % v.size]? = some y := by simpa using hy
  have : v[i % v.size]! = y := by
    rw [getElem!_def, hy']
  rw [this]
  exact hz

def buildSliceA (P : Program) (h : Heap) (t : TypeId) (len : Nat) (parts : List (Nat × AV)) : Option (AV × Heap) :=
  match P.underlying t with
  | some (.slice e) => match szA P e, zeroA P e with
    | some size, some z =>
      if z.length = size ∧ size ≠ 0 ∧ len * size ≤ 16777216 then
        (fillA (fun i => some (i * size, size)) (zerosA z len) parts).map fun cs => (.sl h.length 0 len len true size, h ++ [.cells cs e])
      else none
    | _, _ => none
  | _ => none
theorem fillA_length {place : Nat → Option (Nat × Nat)} {parts : List (Nat × AV)} : ∀ {cs rs : List AV}, fillA place cs parts = some rs → rs.length = cs.length := by
  induction parts with
  | nil => intro cs rs h; simp only [fillA, Option.some.injEq] at h; rw [h]
  | cons p parts ih =>
    intro cs rs h
    obtain ⟨i, v⟩ := p
    simp only [fillA] at h
    split at h
    · split at h
      · cases h
      · rw [ih h, setAll_length]
    · cases h
theorem buildSliceA_run {P : Program} {fp : Nat → Prop} {L : LC} {h h' : Heap} {w : World} (s : SatOn fp L h w) {t : TypeId} {len : Nat} {parts : List (Nat × AV)} {vparts : Array (Nat × Value)} {x : AV} (e : buildSliceA P h t len parts = some (x, h'))
    (h1 : vparts.toList.map (·.1) = parts.map (·.1)) (h2 : RVs L (parts.map (·.2)) (vparts.toList.map (·.2))) :
    ∃ v w' L', (Instr.buildSlice t len vparts).run P w = .ok v w' ∧ Stp (fun _ => False) L h w L' h' w' ∧ RV L' x v := by
  unfold buildSliceA at e
  split at e
  · rename_i te hu
    split at e
    · rename_i size z hs hz
      by_cases hc : z.length = size ∧ size ≠ 0 ∧ len * size ≤ 16777216
      · rw [if_pos hc] at e
        obtain ⟨hzl, hs0, hmax⟩ := hc
        obtain ⟨cs, hf, e⟩ := Option.map_eq_some_iff.1 e
        cases e
        obtain ⟨zv, hzr, hzc⟩ := zeroA_run hz w L
        have hzs : zv.cells.size = size := by rw [← hzc.size, hzl]
        have hzz := zeros_rel hzc len
        rw [hzs] at hzz
        obtain ⟨us, hfill, hr⟩ := fillA_run (vs := (Array.range (len * size)).map fun i => zv.cells[i % size]!) hf hzz h1 h2
        have hul : us.size = len * size := by
          rw [← hr.size, fillA_length hf, zerosA_length, hzl]
        have hcl : cs.length = us.size := hr.size
        have hmax' : ¬ len * size > 2 ^ 24 := by simpa using hmax
        have hrun : (Instr.buildSlice t len vparts).run P w = .ok (.slice (some ⟨w.heap.size, 0, none⟩) len len) (pushed w (.cells us te)) := by
          by_cases h0 : len * size = 0
          · have e0 : ∀ f : Nat → Value, (Array.range (len * size)).map f = #[] := fun f => by rw [h0]; simp
            rw [e0] at hfill
            simp only [Instr.buildSlice, Sem.run_bind, run_underlying hu, Result.andThen_ok, run_sizeOf' w hs, Sem.run_ite, if_neg hmax', if_pos h0, Sem.run_pure, e0, hfill]
            simp [newRow, pushed]
          · simp only [Instr.buildSlice, Sem.run_bind, run_underlying hu, Result.andThen_ok, run_sizeOf' w hs, Sem.run_ite, if_neg hmax', if_neg h0, hzr, Sem.run_pure, hzs, hfill]
            simp [newRow, pushed]
        refine ⟨_, _, _, hrun, fresh_cells (P := P) s (c := us) (by rw [List.take_of_length_le (by simp [hcl])]; exact hr) (by omega), ⟨_, _, .inr new_ρ, rfl, Nat.le_refl _, Nat.le_refl _, fun _ => rfl, ?_⟩⟩
        simp only [Nat.zero_add]
        omega
      · rw [if_neg hc] at e; cases e
    · cases e
  · cases e
end Go.Proofs.YtgcdpdkccaabcaaGreat.Ev
