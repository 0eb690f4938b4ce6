/- Hints for data that lies in a block of the walk's own. Conditions: none (definitions and lemmas). -/
import Derived.Test.YtgcdpdkccaabcaaGreatEvU
namespace Go.Proofs.YtgcdpdkccaabcaaGreat.Ev
open Go
set_option linter.unusedVariables false
set_option linter.unusedSimpArgs false
set_option linter.unusedSectionVars false

theorem CodeB.lower {P : Program} {h0 : Heap} {c : Code} {s : St} {R : Ex → St → Prop} {lw : Nat} (hl : lw ≤ s.lw) (h : CodeB P h0 c { s with lw := lw } R) : CodeB P h0 c s R :=
  fun L0 w0 L a w Q h1 h2 hQ => h L0 w0 L a w Q h1 (h2.lower hl) hQ

/-- An index into a block. -/
def hIdxS (n id len lo : Nat) (ex : Bool) (size : Nat) (i : Int) (j : Nat) : Hint := { vals := [.sl id 0 len lo ex size, .int .i64 i], len := n, v := .ptr id (j * size) }
theorem good_idxS {P : Program} {E : Eqs} {Φ : Orc} {t e : TypeId} {size : Nat} (hu : P.underlying t = some (.slice e)) (hs : szA P e = some size) {n id len lo : Nat} {ex : Bool} {i : Int} {j : Nat} {x y : Operand} (hi : i = j) (hj : j < len) :
    Hint.Good P E Φ (hIdxS n id len lo ex size i j) (.indexAddr t x y) := by
  intro env h lw hv _ _ _
  have hop : (Op.indexAddr t x y).operands.toList = [x, y] := rfl
  rw [hop] at hv
  simp only [hIdxS, List.map_cons, List.map_nil, List.cons.injEq, and_true] at hv
  subst hi
  have hc : (0 : Int) ≤ (j : Int) ∧ (j : Int) < (len : Int) := by omega
  simp only [stepOp, dirOp, pureOp, hv.1, hv.2, indexAddrA, hu, hs, if_pos hc, Option.map_some, hIdxS, Int.toNat_natCast, Nat.zero_add]
  rfl
/-- A record is read. -/
def hLd (n id : Nat) (cs : List AV) (e : TypeId) (off : Nat) (v : List AV) : Hint := { vals := [.ptr id off], look := [(id, .cells cs e)], len := n, v := .agg v, lw := fun lw => lw, eff := ⟨⟨[id], []⟩, false, none⟩ }
theorem good_ld {P : Program} {E : Eqs} {Φ : Orc} {t : TypeId} {size : Nat} (ha : isAggB P t = true) (hd : (P.underlying t).isSome = true) (hs : szA P t = some size) {n id off : Nat} {cs v : List AV} {e : TypeId} {x : Operand} (hv0 : (cs.drop off).take size = v) (hl : v.length = size) :
    Hint.Good P E Φ (hLd n id cs e off v) (.load t x) := by
  intro env h lw hv hlk _ _
  have hop : (Op.load t x).operands.toList = [x] := rfl
  rw [hop] at hv
  simp only [hLd, List.map_cons, List.map_nil, List.cons.injEq, and_true] at hv
  have hc : h[id]? = some (.cells cs e) := map_look (f := fun t => h[t]?) hlk (id, .cells cs e) List.mem_cons_self
  obtain ⟨d, hd⟩ := Option.isSome_iff_exists.1 hd
  have hle : size ≤ (cs.drop off).length := by
    have := congrArg List.length hv0
    rw [List.length_take, hl] at this
    have h2 := Nat.min_le_right size (cs.drop off).length
    omega
  simp only [stepOp, dirOp, hv, loadA, viewA, cellsAt, hc, Option.map_some, hd, ha, if_true, hs, if_pos hle, hv0, hLd]
  rfl
/-- A record is written. -/
def hSt (n id : Nat) (cs : List AV) (e : TypeId) (off : Nat) (v cs' : List AV) : Hint :=
  { vals := [.ptr id off, .agg v], look := [(id, .cells cs e)], len := n, v := .tup [], upd := fun h => h.set id (.cells cs' e), lw := fun lw => lowOf lw ⟨[], [id]⟩, eff := ⟨⟨[], [id]⟩, false, none⟩ }
theorem good_st {P : Program} {E : Eqs} {Φ : Orc} {t : TypeId} {size : Nat} (hs : szA P t = some size) {n id off : Nat} {cs v cs' : List AV} {e : TypeId} {x y : Operand} (hl : v.length = size) (hle : off + size ≤ cs.length) (hleaf : v.all leafA = true) (hcs : setAll cs off v = cs') :
    Hint.Good P E Φ (hSt n id cs e off v cs') (.store t x y) := by
  intro env h lw hv hlk _ _
  have hop : (Op.store t x y).operands.toList = [x, y] := rfl
  rw [hop] at hv
  simp only [hSt, List.map_cons, List.map_nil, List.cons.injEq, and_true] at hv
  have hc : h[id]? = some (.cells cs e) := map_look (f := fun t => h[t]?) hlk (id, .cells cs e) List.mem_cons_self
  simp only [stepOp, dirOp, hv.1, hv.2, storeA, cellsA, hs, hc, if_pos (show v.length = size ∧ off + size ≤ cs.length ∧ v.all leafA = true from ⟨hl, hle, hleaf⟩), Option.map_some, hcs, hSt]
/-- An operator's value. -/
def hBin (n : Nat) (x y v : AV) : Hint := { vals := [x, y], len := n, v := v }
theorem good_bin {P : Program} {E : Eqs} {Φ : Orc} {op : BinOp} {t t2 : TypeId} {n : Nat} {a b v : AV} {x y : Operand} (hh : binA P E op t a b = some v) : Hint.Good P E Φ (hBin n a b v) (.binOp op t x y t2) := by
  intro env h lw hv _ _ _
  have hop : (Op.binOp op t x y t2).operands.toList = [x, y] := rfl
  rw [hop] at hv
  simp only [hBin, List.map_cons, List.map_nil, List.cons.injEq, and_true] at hv
  simp only [stepOp, dirOp, pureOp, hv.1, hv.2, hh, Option.map_some, hBin]
  rfl

theorem setAll_pre {α : Type} : ∀ (vs xs : List α) (off : Nat), off + vs.length ≤ xs.length → setAll xs off vs = xs.take off ++ vs ++ xs.drop (off + vs.length)
  | [], xs, off, _ => by simp [setAll]
  | c :: cs, xs, off, h => by
    simp only [List.length_cons] at h
    rw [setAll, setAll_pre cs (xs.set off c) (off + 1) (by rw [List.length_set]; omega)]
    have h1 : (xs.set off c).take (off + 1) = xs.take off ++ [c] := by
      rw [List.take_add_one, List.take_set_of_le (Nat.le_refl _)]
      have : (xs.set off c)[off]? = some c := by rw [List.getElem?_set_self (by omega)]
      rw [this]; rfl
    have h2 : (xs.set off c).drop (off + 1 + cs.length) = xs.drop (off + (cs.length + 1)) := by
      rw [List.drop_set_of_lt (by omega)]
      congr 1; omega
    rw [h1, h2]
    simp
theorem EncK.set {α : Type} {enc : α → List AV} {k : Nat} (hk : EncK enc k) {d : List α} {j : Nat} (hj : j < d.length) (x : α) : setAll (encL enc d) (j * k) (enc x) = encL enc (d.set j x) := by
  have hx : d[j]? = some d[j] := List.getElem?_eq_getElem hj
  have hb : j * k + k ≤ d.length * k := by
    have : (j + 1) * k ≤ d.length * k := Nat.mul_le_mul_right _ hj
    rw [Nat.add_mul] at this
    omega
  rw [setAll_pre _ _ _ (by rw [hk.len, hk.length]; exact hb)]
  have h1 : (encL enc d).take (j * k) = encL enc (d.take j) := by
    rw [encL_split hx]
    refine List.take_left' ?_
    rw [hk.length, List.length_take, Nat.min_eq_left (by omega)]
  have h2 : (encL enc d).drop (j * k + (enc x).length) = encL enc (d.drop (j + 1)) := by
    rw [hk.len, ← List.drop_drop, hk.drop hx]
    exact List.drop_left' (hk.len _)
  rw [h1, h2]
  have : d.set j x = d.take j ++ (x :: d.drop (j + 1)) := by rw [List.set_eq_take_append_cons_drop, if_pos hj]
  rw [this, encL_append, encL_cons]
  simp
theorem EncK.get {α : Type} {enc : α → List AV} {k : Nat} (hk : EncK enc k) {d : List α} {j : Nat} {x : α} (hx : d[j]? = some x) : ((encL enc d).drop (j * k)).take k = enc x := by
  rw [hk.drop hx]
  exact List.take_left' (hk.len _)
/-- A call that turns the heap. -/
def hCallH (f : FuncId) (args : List AV) (h : Heap) (r : AV) (h' : Heap) (lw' : Nat) : Hint :=
  { vals := .fn f [] [] :: args, len := h.length, heap := some h, v := r, upd := fun _ => h', lw := fun lw => min lw lw', eff := ⟨.none, true, callW h.length lw'⟩ }
theorem good_callH {P : Program} {E : Eqs} {f : FuncId} {args : List AV} {h h' : Heap} {r : AV} {lw' : Nat} {c : Call} {g : Operand} {xs : List Operand} (hc : c.callee = .value g) (hxs : c.args.toList = xs) :
    Hint.Good P E (oneOrc f args h (r, h', lw')) (hCallH f args h r h' lw') (.call c) := by
  intro env h1 lw hv _ hn hh
  have hop : (Op.call c).operands.toList = g :: xs := by simp [Op.operands, Call.operands, hc, hxs]
  rw [hop] at hv
  simp only [hCallH, List.map_cons, List.cons.injEq] at hv
  obtain rfl : h1 = h := hh h rfl
  have hcal : calleeA env c = some (f, args) := by
    simp only [calleeA, hc, hv.1, hxs, List.nil_append, List.append_nil, hv.2]
  have hb : isBuiltin c = false := by simp [isBuiltin, hc]
  rw [step_call (q := (r, h', lw')) hb hcal oneOrc_self]
  rfl
end Go.Proofs.YtgcdpdkccaabcaaGreat.Ev
