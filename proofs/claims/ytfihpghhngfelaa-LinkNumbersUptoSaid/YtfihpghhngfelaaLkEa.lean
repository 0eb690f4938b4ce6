/- The reading of the objects. Conditions: none (definitions and lemmas). -/
import Derived.Test.YtfihpghhngfelaaRows
import Derived.Test.YtfihpghhngfelaaLkZ
import Derived.Test.YtfihpghhngfelaaEvX
namespace Go.Proofs.Ytfihpghhngfelaa.Lk
open Go Go.Proofs Go.Proofs.Ytfihpghhngfelaa.Ev
set_option maxRecDepth 100000
set_option linter.unusedVariables false
set_option linter.unusedSimpArgs false
abbrev bK {H : Type} (d : DataW H) : Nat := Rows.uptoBulk d
theorem bulkAll_sum {H : Type} : ∀ (l : List (DataW H)), Rows.uptoBulkAll l = (l.map bK).sum
  | [] => by simp [Rows.uptoBulkAll]
  | d :: l => by rw [Rows.uptoBulkAll, bulkAll_sum l]; simp
theorem bK_slice {H : Type} (es rs : List (DataW H)) : (es.map bK).sum ≤ bK (.slice es rs) := by
  show _ ≤ Rows.uptoBulk _
  rw [Rows.uptoBulk, bulkAll_sum]; omega
theorem bK_agg {H : Type} (l : List (DataW H)) : bK (.agg l) = (l.map bK).sum + 1 := by
  show Rows.uptoBulk _ = _
  rw [Rows.uptoBulk, bulkAll_sum]
section
variable {W : World} {H : Type} {eh : TypeId × Value → H}
theorem fieldOf {P : Program} {n : Nat} {fs : Array Field} {cs : List Value} {xs : List (DataW H × List MemPlace)} (hf : ∀ (i : Nat) (f : Field), fs[i]? = some f → DataW.trod eh P W 0 (fun _ => true) true n f.type ((cs.drop f.offset).take (P.cellsOf f.type)) = xs[i]?)
    {i t off k : Nat} (h1 : (fs[i]?).map (fun f => (f.type, f.offset)) = some (t, off)) (hk : P.cellsOf t = k) : DataW.trod eh P W 0 (fun _ => true) true n t ((cs.drop off).take k) = xs[i]? := by
  obtain ⟨f, hf1, hf2⟩ := Option.map_eq_some_iff.1 h1
  cases hf2
  rw [← hk]
  exact hf i f hf1
end
section
variable (W : World)
theorem decInt : Dec bK Try.prog W 3 1 encInt (fun _ => 1) := by
  intro H eh fuel cs x hl h
  obtain ⟨n, rfl, rfl, _⟩ := DataW.trod_int Try.underlying3 h
  exact ⟨n, .cons (by simp [RV]) .nil, Nat.le_refl _⟩
def encVal (p : Int × Int) : List AV := [.int .i64 p.1, .int .u64 p.2]
theorem decVal : Dec bK Try.prog W 61 2 encVal (fun _ => 1) := by
  intro H eh fuel cs x hl h
  obtain ⟨a, b, rfl⟩ := len2 hl
  obtain ⟨xs, n, rfl, rfl, _, hxl, hf⟩ := DataW.trod_struct Try.underlying61 h
  obtain ⟨x0, x1, rfl⟩ := len2 hxl
  obtain ⟨n0, e0, _⟩ := DataW.trod_int Try.underlying3 (x := x0) (fieldOf hf (i := 0) (t := 3) (off := 0) (k := 1) rfl (by kernel_rfl))
  obtain ⟨n1, e1, _⟩ := DataW.trod_int Try.underlying59 (x := x1) (fieldOf hf (i := 1) (t := 59) (off := 1) (k := 1) rfl (by kernel_rfl))
  have e0' : a = .int .i64 n0 := (List.cons.inj e0).1
  have e1' : b = .int .u64 n1 := (List.cons.inj e1).1
  exact ⟨(n0, n1), .cons (by simp [RV, e0']) (.cons (by simp [RV, e1']) .nil), by show _ ≤ bK (DataW.agg _); rw [bK_agg]; dsimp only; omega⟩
theorem decIns : Dec bK Try.prog W 115 4 encIns (fun _ => 1) := by
  intro H eh fuel cs x hl h
  obtain ⟨a, b, c, d, rfl⟩ := len4 hl
  obtain ⟨xs, n, rfl, rfl, _, hxl, hf⟩ := DataW.trod_struct Try.underlying115 h
  obtain ⟨x0, x1, x2, rfl⟩ := len3 hxl
  obtain ⟨n0, e0, _⟩ := DataW.trod_int Try.underlying3 (x := x0) (fieldOf hf (i := 0) (t := 3) (off := 0) (k := 1) rfl (by kernel_rfl))
  obtain ⟨n1, e1, _⟩ := DataW.trod_int Try.underlying3 (x := x1) (fieldOf hf (i := 1) (t := 3) (off := 1) (k := 1) rfl (by kernel_rfl))
  obtain ⟨v, hv, _⟩ := decVal W H eh n [c, d] x2 rfl (fieldOf hf (i := 2) (t := 61) (off := 2) (k := 2) rfl (by kernel_rfl))
  have e0' : a = .int .i64 n0 := (List.cons.inj e0).1
  have e1' : b = .int .i64 n1 := (List.cons.inj e1).1
  exact ⟨⟨n0, n1, v.1, v.2⟩, .cons (by simp [RV, e0']) (.cons (by simp [RV, e1']) hv), by show _ ≤ bK (DataW.agg _); rw [bK_agg]; dsimp only; omega⟩
theorem decInts : Dec bK Try.prog W 65 1 (fun o : Option (List Int) => [encS encInt o]) (fun o => sumW (fun _ => 1) (ls o)) := Dec.slice bK_slice Try.underlying65 (by kernel_rfl) (by decide) kInt (decInt W)
theorem decCode : Dec bK Try.prog W 80 1 (fun o : Option (List DIns) => [encS encIns o]) (fun o => sumW (fun _ => 1) (ls o)) := Dec.slice bK_slice Try.underlying80 (by kernel_rfl) (by decide) kIns (decIns W)
def encSig (p : Option (List Int) × Int) : List AV := [encS encInt p.1, .int .i64 p.2]
theorem decSig : Dec bK Try.prog W 79 2 encSig (fun p => sumW (fun _ => 1) (ls p.1)) := by
  intro H eh fuel cs x hl h
  obtain ⟨a, b, rfl⟩ := len2 hl
  obtain ⟨xs, n, rfl, rfl, _, hxl, hf⟩ := DataW.trod_struct Try.underlying79 h
  obtain ⟨x0, x1, rfl⟩ := len2 hxl
  obtain ⟨o, h0, w0⟩ := decInts W H eh n [a] x0 rfl (fieldOf hf (i := 0) (t := 65) (off := 0) (k := 1) rfl (by kernel_rfl))
  obtain ⟨n1, e1, _⟩ := DataW.trod_int Try.underlying3 (x := x1) (fieldOf hf (i := 1) (t := 3) (off := 1) (k := 1) rfl (by kernel_rfl))
  have e1' : b = .int .i64 n1 := (List.cons.inj e1).1
  refine ⟨(o, n1), h0.append (.cons (by simp [RV, e1']) .nil), ?_⟩
  show _ ≤ bK (DataW.agg _)
  rw [bK_agg]
  dsimp only at *
  simp only [List.map_cons, List.sum_cons]; omega
def wFn (f : DFn) : Nat := sumW (fun _ => 1) (ls f.params) + sumW (fun _ => 1) (ls f.locals) + sumW (fun _ => 1) (ls f.code) + 1
theorem decFn : Dec bK Try.prog W 82 4 encFn wFn := by
  intro H eh fuel cs x hl h
  obtain ⟨a, b, c, d, rfl⟩ := len4 hl
  obtain ⟨xs, n, rfl, rfl, _, hxl, hf⟩ := DataW.trod_struct Try.underlying82 h
  obtain ⟨x0, x1, x2, rfl⟩ := len3 hxl
  obtain ⟨s, h0, w0⟩ := decSig W H eh n [a, b] x0 rfl (fieldOf hf (i := 0) (t := 79) (off := 0) (k := 2) rfl (by kernel_rfl))
  obtain ⟨l, h1, w1⟩ := decInts W H eh n [c] x1 rfl (fieldOf hf (i := 1) (t := 65) (off := 2) (k := 1) rfl (by kernel_rfl))
  obtain ⟨k, h2, w2⟩ := decCode W H eh n [d] x2 rfl (fieldOf hf (i := 2) (t := 80) (off := 3) (k := 1) rfl (by kernel_rfl))
  refine ⟨⟨s.1, s.2, l, k⟩, h0.append (h1.append h2), ?_⟩
  show _ ≤ bK (DataW.agg _)
  rw [bK_agg]
  dsimp only at *
  simp only [List.map_cons, List.sum_cons, wFn]; omega
theorem decFnN : Dec bK Try.prog W 84 5 encFnN (fun x => wFn x.fn) := by
  intro H eh fuel cs x hl h
  obtain ⟨a, b, c, d, e, rfl⟩ := len5 hl
  obtain ⟨xs, n, rfl, rfl, _, hxl, hf⟩ := DataW.trod_struct Try.underlying84 h
  obtain ⟨x0, x1, rfl⟩ := len2 hxl
  obtain ⟨s, e0, _⟩ := DataW.trod_string Try.underlying9 (x := x0) (fieldOf hf (i := 0) (t := 9) (off := 0) (k := 1) rfl (by kernel_rfl))
  obtain ⟨f, h1, w1⟩ := decFn W H eh n [b, c, d, e] x1 rfl (fieldOf hf (i := 1) (t := 82) (off := 1) (k := 4) rfl (by kernel_rfl))
  have e0' : a = .string s := (List.cons.inj e0).1
  refine ⟨⟨s, f⟩, .cons (by simp [RV, e0']) h1, ?_⟩
  show _ ≤ bK (DataW.agg _)
  rw [bK_agg]
  dsimp only at *
  simp only [List.map_cons, List.sum_cons]; omega
theorem decVar : Dec bK Try.prog W 78 3 encVar (fun _ => 1) := by
  intro H eh fuel cs x hl h
  obtain ⟨a, b, c, rfl⟩ := len3 hl
  obtain ⟨xs, n, rfl, rfl, _, hxl, hf⟩ := DataW.trod_struct Try.underlying78 h
  obtain ⟨x0, x1, rfl⟩ := len2 hxl
  obtain ⟨s, e0, _⟩ := DataW.trod_string Try.underlying9 (x := x0) (fieldOf hf (i := 0) (t := 9) (off := 0) (k := 1) rfl (by kernel_rfl))
  obtain ⟨v, h1, w1⟩ := decVal W H eh n [b, c] x1 rfl (fieldOf hf (i := 1) (t := 61) (off := 1) (k := 2) rfl (by kernel_rfl))
  have e0' : a = .string s := (List.cons.inj e0).1
  exact ⟨⟨s, v.1, v.2⟩, .cons (by simp [RV, e0']) h1, by show _ ≤ bK (DataW.agg _); rw [bK_agg]; dsimp only; omega⟩
theorem decRel : Dec bK Try.prog W 57 5 encRel (fun _ => 1) := by
  intro H eh fuel cs x hl h
  obtain ⟨a, b, c, d, e, rfl⟩ := len5 hl
  obtain ⟨xs, n, rfl, rfl, _, hxl, hf⟩ := DataW.trod_struct Try.underlying57 h
  obtain ⟨x0, x1, x2, x3, x4, rfl⟩ := len5 hxl
  obtain ⟨n0, e0, _⟩ := DataW.trod_int Try.underlying3 (x := x0) (fieldOf hf (i := 0) (t := 3) (off := 0) (k := 1) rfl (by kernel_rfl))
  obtain ⟨n1, e1, _⟩ := DataW.trod_int Try.underlying3 (x := x1) (fieldOf hf (i := 1) (t := 3) (off := 1) (k := 1) rfl (by kernel_rfl))
  obtain ⟨n2, e2, _⟩ := DataW.trod_int Try.underlying3 (x := x2) (fieldOf hf (i := 2) (t := 3) (off := 2) (k := 1) rfl (by kernel_rfl))
  obtain ⟨s3, e3, _⟩ := DataW.trod_string Try.underlying9 (x := x3) (fieldOf hf (i := 3) (t := 9) (off := 3) (k := 1) rfl (by kernel_rfl))
  obtain ⟨s4, e4, _⟩ := DataW.trod_string Try.underlying9 (x := x4) (fieldOf hf (i := 4) (t := 9) (off := 4) (k := 1) rfl (by kernel_rfl))
  have e0' : a = .int .i64 n0 := (List.cons.inj e0).1
  have e1' : b = .int .i64 n1 := (List.cons.inj e1).1
  have e2' : c = .int .i64 n2 := (List.cons.inj e2).1
  have e3' : d = .string s3 := (List.cons.inj e3).1
  have e4' : e = .string s4 := (List.cons.inj e4).1
  exact ⟨⟨n0, n1, n2, s3, s4⟩, .cons (by simp [RV, e0']) (.cons (by simp [RV, e1']) (.cons (by simp [RV, e2']) (.cons (by simp [RV, e3']) (.cons (by simp [RV, e4']) .nil)))), by show _ ≤ bK (DataW.agg _); rw [bK_agg]; dsimp only; omega⟩
def wObj (o : DObj) : Nat := o.mod.size + sumW (fun _ => 1) (ls o.vars) + sumW (fun x : DFnN => wFn x.fn) (ls o.fns) + sumW (fun _ => 1) (ls o.rels) + 1
theorem decObj : Dec bK Try.prog W 38 4 encObj wObj := by
  intro H eh fuel cs x hl h
  obtain ⟨a, b, c, d, rfl⟩ := len4 hl
  obtain ⟨xs, n, rfl, rfl, _, hxl, hf⟩ := DataW.trod_struct Try.underlying38 h
  obtain ⟨x0, x1, x2, x3, rfl⟩ := len4 hxl
  obtain ⟨s, e0, ex, _⟩ := DataW.trod_string Try.underlying9 (x := x0) (fieldOf hf (i := 0) (t := 9) (off := 0) (k := 1) rfl (by kernel_rfl))
  obtain ⟨v, h1, w1⟩ := Dec.slice bK_slice Try.underlying34 (by kernel_rfl) (by decide) kVar (decVar W) H eh n [b] x1 rfl (fieldOf hf (i := 1) (t := 34) (off := 1) (k := 1) rfl (by kernel_rfl))
  obtain ⟨f, h2, w2⟩ := Dec.slice bK_slice Try.underlying35 (by kernel_rfl) (by decide) kFnN (decFnN W) H eh n [c] x2 rfl (fieldOf hf (i := 2) (t := 35) (off := 2) (k := 1) rfl (by kernel_rfl))
  obtain ⟨r, h3, w3⟩ := Dec.slice bK_slice Try.underlying36 (by kernel_rfl) (by decide) kRel (decRel W) H eh n [d] x3 rfl (fieldOf hf (i := 3) (t := 36) (off := 3) (k := 1) rfl (by kernel_rfl))
  have e0' : a = .string s := (List.cons.inj e0).1
  refine ⟨⟨s, v, f, r⟩, .cons (by simp [RV, e0']) (h1.append (h2.append h3)), ?_⟩
  have hs : s.size + 1 ≤ bK x0.1 := by
    rw [ex]
    show _ ≤ Rows.uptoBulk _
    simp only [Rows.uptoBulk]
    rw [size_len]
    exact Nat.le_refl _
  show _ ≤ bK (DataW.agg _)
  rw [bK_agg]
  dsimp only at *
  simp only [List.map_cons, List.sum_cons, wObj]; omega
theorem decObjs : Dec bK Try.prog W 22 1 (fun o : Option (List DObj) => [encS encObj o]) (fun o => sumW wObj (ls o)) := Dec.slice bK_slice Try.underlying22 (by kernel_rfl) (by decide) kObj (decObj W)
end
theorem sumW_one {α : Type} (l : List α) : sumW (fun _ => 1) l = l.length := by
  induction l with
  | nil => rfl
  | cons a l ih => rw [sumW_cons, ih, List.length_cons]; omega
theorem fl_sum {β : Type} (f : DObj → List β) (hw : ∀ o, (f o).length ≤ wObj o) : ∀ l : List DObj, (l.flatMap f).length ≤ sumW wObj l
  | [] => Nat.le_refl _
  | o :: l => by rw [List.flatMap_cons, List.length_append, sumW_cons]; have := fl_sum f hw l; have := hw o; omega
theorem bnd_of {l : List DObj} (h : sumW wObj l ≤ 1048576) : Bnd l := by
  have hLim : Lim = 1048576 := rfl
  have ho : ∀ o ∈ l, wObj o ≤ 1048576 := fun o ho => Nat.le_trans (sumW_mem ho) h
  refine ⟨⟨Nat.le_trans (sumW_len (wt := wObj) (fun o => by unfold wObj; omega)) h, fun o hm => ?_⟩, fun o hm => ?_, ?_, ?_⟩
  · have := ho o hm
    unfold wObj at this
    rw [sumW_one, sumW_one] at this
    have hfl : (ls o.fns).length ≤ sumW (fun x : DFnN => wFn x.fn) (ls o.fns) := sumW_len fun x => by unfold wFn; omega
    refine ⟨by omega, by omega, by omega, fun x hx => ?_⟩
    have h1 : wFn x.fn ≤ sumW (fun x : DFnN => wFn x.fn) (ls o.fns) := sumW_mem (wt := fun x : DFnN => wFn x.fn) hx
    have h2 : (ls x.fn.params).length + (ls x.fn.locals).length + (ls x.fn.code).length + 1 = wFn x.fn := by unfold wFn; rw [sumW_one, sumW_one, sumW_one]
    exact ⟨by omega, by omega, by omega⟩
  · have := ho o hm
    unfold wObj at this
    omega
  · exact Nat.le_trans (fl_sum pVo (fun o => by rw [pVo, List.length_map]; unfold wObj; rw [sumW_one]; omega) l) h
  · exact Nat.le_trans (fl_sum pFo (fun o => by
      rw [pFo, List.length_map]
      have hfl : (ls o.fns).length ≤ sumW (fun x : DFnN => wFn x.fn) (ls o.fns) := sumW_len fun x => by unfold wFn; omega
      unfold wObj; omega) l) h
end Go.Proofs.Ytfihpghhngfelaa.Lk
