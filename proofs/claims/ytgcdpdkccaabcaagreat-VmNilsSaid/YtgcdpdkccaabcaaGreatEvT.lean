/- Small laws for walks at data that are told by variables. Conditions: none (definitions and lemmas). -/
import Derived.Test.YtgcdpdkccaabcaaGreatEvS
namespace Go.Proofs.YtgcdpdkccaabcaaGreat.Ev
open Go
set_option linter.unusedVariables false
set_option linter.unusedSimpArgs false
set_option linter.unusedSectionVars false

/-! ### values that name no block -/
def Cl (x : AV) : Prop := ∀ h n σ, Frz h n σ x x
def Cls (xs : List AV) : Prop := ∀ x ∈ xs, Cl x
theorem Cls.frzs {xs : List AV} (hc : Cls xs) {h : Heap} {n : Nat} {σ : List Nat} : Frzs h n σ xs xs := by
  induction xs with
  | nil => exact .nil
  | cons x xs ih => exact .cons (hc x (by simp) h n σ) (ih fun y hy => hc y (by simp [hy]))
theorem Cl.int {k : IntKind} {i : Int} : Cl (.int k i) := fun _ _ _ => .int _ _
theorem Cl.str {s : ByteArray} : Cl (.str s) := fun _ _ _ => .str _
theorem Cl.bool {b : Bool} : Cl (.bool b) := fun _ _ _ => .bool _
theorem Cl.nils : Cl .nils := fun _ _ _ => .nils
theorem Cl.any : Cl .any := fun _ _ _ => .any _
theorem Cl.vsl {xs : List AV} {n : Nat} {c : Option Nat} (h : Cls xs) : Cl (.vsl xs n c) := fun _ _ _ => .vsl xs.length (by rw [List.take_length]; exact h.frzs) fun _ e => e
theorem Cl.vp {xs : List AV} (h : Cls xs) : Cl (.vp xs) := fun _ _ _ => .vp xs.length (by rw [List.take_length]; exact h.frzs)
theorem Cl.agg {xs : List AV} (h : Cls xs) : Cl (.agg xs) := fun _ _ _ => .agg h.frzs
theorem Cls.nil : Cls [] := fun _ h => by cases h
theorem Cls.cons {x : AV} {xs : List AV} (h : Cl x) (hs : Cls xs) : Cls (x :: xs) := fun y hy => by
  rcases List.mem_cons.1 hy with rfl | hy
  · exact h
  · exact hs y hy
theorem Cls.append {xs ys : List AV} (h : Cls xs) (k : Cls ys) : Cls (xs ++ ys) := fun y hy => (List.mem_append.1 hy).elim (h y) (k y)
theorem Frz.slAll {h : Heap} {n : Nat} {σ : List Nat} {id len lo es : Nat} {ex : Bool} {cs ys : List AV} {e : TypeId} (hid : n ≤ id) (hσ : id ∉ σ) (hb : h[id]? = some (.cells cs e)) (hs : Frzs h n σ cs ys) : Frz h n σ (.sl id 0 len lo ex es) (.vsl ys len none) :=
  .slFrz (k := cs.length) hid hσ hb (by rw [List.drop_zero, List.take_length]; exact hs) fun _ e => by cases e
theorem FrzB.all {h : Heap} {n : Nat} {σ : List Nat} {cs ys : List AV} {e : TypeId} (hs : Frzs h n σ cs ys) : FrzB h n σ (.cells cs e) (.cells ys e) := .cells cs.length (by rw [List.take_length]; exact hs)
theorem FrzB.same {h : Heap} {n : Nat} {σ : List Nat} {cs : List AV} {e : TypeId} (hs : Cls cs) : FrzB h n σ (.cells cs e) (.cells cs e) := .all hs.frzs

/-! ### lists of records -/
def encL {α : Type} (enc : α → List AV) (l : List α) : List AV := l.flatMap enc
def encS {α : Type} (enc : α → List AV) : Option (List α) → AV
  | none => .nils
  | some l => .vsl (encL enc l) l.length none
def ls {α : Type} (l : Option (List α)) : List α := l.getD []
def nz {α : Type} (l : List α) : Option (List α) := match l with | [] => none | _ => some l
theorem ls_nz {α : Type} (l : List α) : ls (nz l) = l := by cases l <;> rfl
/-- Every record has k cells, leaves that name no block. -/
structure EncK {α : Type} (enc : α → List AV) (k : Nat) : Prop where
  len : ∀ x, (enc x).length = k
  leaf : ∀ x, (enc x).all leafA = true
  cl : ∀ x, Cls (enc x)
section
variable {α : Type} {enc : α → List AV} {k : Nat}
theorem encL_nil : encL enc [] = [] := rfl
theorem encL_cons {x : α} {l : List α} : encL enc (x :: l) = enc x ++ encL enc l := by simp [encL]
theorem encL_append (a b : List α) : encL enc (a ++ b) = encL enc a ++ encL enc b := by simp [encL]
theorem EncK.length (hk : EncK enc k) (l : List α) : (encL enc l).length = l.length * k := by
  induction l with
  | nil => simp [encL]
  | cons x l ih =>
    rw [encL_cons, List.length_append, hk.len, ih, List.length_cons, Nat.add_mul]
    omega
theorem EncK.leafs (hk : EncK enc k) (l : List α) : (encL enc l).all leafA = true := by
  simp only [encL, List.all_flatMap, List.all_eq_true]
  exact fun x _ => by simpa using hk.leaf x
theorem EncK.cls (hk : EncK enc k) (l : List α) : Cls (encL enc l) := by
  intro x hx
  obtain ⟨y, _, hy⟩ := List.mem_flatMap.1 hx
  exact hk.cl y x hy
theorem EncK.clS (hk : EncK enc k) (o : Option (List α)) : Cl (encS enc o) := by
  cases o with
  | none => exact .nils
  | some l => exact .vsl (hk.cls l)
theorem encL_split {l : List α} {i : Nat} {x : α} (hx : l[i]? = some x) : encL enc l = encL enc (l.take i) ++ (enc x ++ encL enc (l.drop (i + 1))) := by
  obtain ⟨hi, rfl⟩ := List.getElem?_eq_some_iff.1 hx
  have : l = l.take i ++ (l[i] :: l.drop (i + 1)) := by simp
  have h2 : encL enc l = encL enc (l.take i ++ (l[i] :: l.drop (i + 1))) := congrArg _ this
  rw [h2, encL_append]
  congr 1
theorem EncK.drop (hk : EncK enc k) {l : List α} {i : Nat} {x : α} (hx : l[i]? = some x) : (encL enc l).drop (i * k) = enc x ++ encL enc (l.drop (i + 1)) := by
  obtain ⟨hi, _⟩ := List.getElem?_eq_some_iff.1 hx
  rw [encL_split hx]
  refine List.drop_left' ?_
  rw [hk.length, List.length_take, Nat.min_eq_left (by omega)]
theorem encL_take_succ {l : List α} {i : Nat} {x : α} (hx : l[i]? = some x) : encL enc (l.take (i + 1)) = encL enc (l.take i) ++ enc x := by
  rw [List.take_add_one, hx, encL_append]
  simp [encL]
theorem EncK.src (hk : EncK enc k) {h : Heap} (o : Option (List α)) : srcA h k (encS enc o) = some (encL enc (ls o), (ls o).length, []) := by
  cases o with
  | none => rfl
  | some l => simp [encS, srcA, ls, hk.length]
end

/-! ### append -/
/-- What a slice's type is. -/
structure SlT (P : Program) (st e : TypeId) (size bytes : Nat) : Prop where
  hu : P.underlying st = some (.slice e)
  hs : szA P e = some size
  hb : bytesA P e = some bytes
  hz : (zeroA P e).map List.length = some size
  h0 : size ≠ 0 ∧ bytes ≠ 0
theorem SlT.app {P : Program} {st e : TypeId} {size bytes : Nat} (T : SlT P st e size bytes) {h : Heap} {x : AV} {src : List AV} {k : Nat} {rd : List Nat} (hsrc : srcA h size x = some (src, k, rd))
    {id len : Nat} {ex : Bool} (hex : ex = false ∨ len = 0) {cs : List AV} (hc : h[id]? = some (.cells cs e)) (hl : cs.length = len * size) (hleaf : src.all leafA = true) (hroom : (len + k) * bytes ≤ 140737488355328) :
    appendU P h st st (.sl id 0 len len ex size) x = some (.sl h.length 0 (len + k) (len + k) false size, h.set id .dead ++ [.cells (cs ++ src) e], ⟨rd, [id]⟩) := by
  obtain ⟨z, hz, hzl⟩ := Option.map_eq_some_iff.1 T.hz
  simp only [appendU, true_and, if_pos hex, appendV, T.hu, isIntD, T.hs, T.hb, hz, and_true, hzl, if_pos (show size = size ∧ size ≠ 0 ∧ bytes ≠ 0 from ⟨rfl, T.h0⟩), if_pos T.h0, hsrc, hc, hl, hleaf, hroom, and_self, if_true, Bool.false_eq_true, if_false]
/-- append to nil, of something. -/
theorem SlT.appNil {P : Program} {st e : TypeId} {size bytes : Nat} (T : SlT P st e size bytes) {h : Heap} {x : AV} {src : List AV} {k : Nat} {rd : List Nat} (hsrc : srcA h size x = some (src, k, rd)) (hk : k ≠ 0) (hroom : k * bytes ≤ 140737488355328) :
    appendU P h st st .nils x = some (.sl h.length 0 k k false size, h ++ [.cells src e], ⟨rd, []⟩) := by
  obtain ⟨z, hz, hzl⟩ := Option.map_eq_some_iff.1 T.hz
  simp only [appendU, appendA, T.hu, isIntD, T.hs, T.hb, hz, hzl, true_and, if_pos T.h0, hsrc, if_neg hk, hroom, if_true, Bool.false_eq_true, if_false]
/-! ### hints -/
/-- append. -/
def hApp (n id len size : Nat) (ex : Bool) (cs : List AV) (e : TypeId) (b : AV) (src : List AV) (k : Nat) (rd : List Nat) (more : List (Nat × Blk)) : Hint :=
  { vals := [.sl id 0 len len ex size, b], look := (id, .cells cs e) :: more, len := n, v := .sl n 0 (len + k) (len + k) false size, upd := fun h => h.set id .dead ++ [.cells (cs ++ src) e], lw := fun lw => lowOf lw ⟨rd, [id]⟩, eff := ⟨⟨rd, [id]⟩, false, none⟩ }
theorem good_app {P : Program} {E : Eqs} {Φ : Orc} {st e : TypeId} {size bytes : Nat} (T : SlT P st e size bytes) {n id len : Nat} {ex : Bool} {cs : List AV} {b : AV} {src : List AV} {k : Nat} {rd : List Nat} {more : List (Nat × Blk)} {c : Call} {s o : Operand}
    (hb : isBuiltin c = true) (ha : isAppend c = true) (h1 : c.args.toList = [s, o]) (h2 : c.argTypes.toList = [st, st]) (hop : (Op.call c).operands.toList = [s, o])
    (hsrc : ∀ h : Heap, (∀ p ∈ more, h[p.1]? = some p.2) → srcA h size b = some (src, k, rd)) (hex : ex = false ∨ len = 0) (hl : cs.length = len * size) (hleaf : src.all leafA = true) (hroom : (len + k) * bytes ≤ 140737488355328) :
    Hint.Good P E Φ (hApp n id len size ex cs e b src k rd more) (.call c) := by
  intro env h lw hv hlk hn _
  rw [hop] at hv
  simp only [hApp, List.map_cons, List.map_nil, List.cons.injEq, and_true] at hv
  have hlk' := map_look (f := fun t => h[t]?) hlk
  have hc : h[id]? = some (.cells cs e) := hlk' (id, .cells cs e) List.mem_cons_self
  have := T.app (h := h) (hsrc h fun p hp => hlk' p (List.mem_cons_of_mem _ hp)) hex hc hl hleaf hroom
  rw [← hv.1, ← hv.2] at this
  simp only [stepOp, hb, if_true, dirOp, ha, h1, h2, this, Option.map_some, hApp]
  have hn' : h.length = n := hn
  rw [hn']
def hAppNil (n size : Nat) (e : TypeId) (b : AV) (src : List AV) (k : Nat) (rd : List Nat) (more : List (Nat × Blk)) : Hint :=
  { vals := [.nils, b], look := more, len := n, v := .sl n 0 k k false size, upd := fun h => h ++ [.cells src e], lw := fun lw => lowOf lw ⟨rd, []⟩, eff := ⟨⟨rd, []⟩, false, none⟩ }
theorem good_appNil {P : Program} {E : Eqs} {Φ : Orc} {st e : TypeId} {size bytes : Nat} (T : SlT P st e size bytes) {n : Nat} {b : AV} {src : List AV} {k : Nat} {rd : List Nat} {more : List (Nat × Blk)} {c : Call} {s o : Operand}
    (hb : isBuiltin c = true) (ha : isAppend c = true) (h1 : c.args.toList = [s, o]) (h2 : c.argTypes.toList = [st, st]) (hop : (Op.call c).operands.toList = [s, o])
    (hsrc : ∀ h : Heap, (∀ p ∈ more, h[p.1]? = some p.2) → srcA h size b = some (src, k, rd)) (hk : k ≠ 0) (hroom : k * bytes ≤ 140737488355328) :
    Hint.Good P E Φ (hAppNil n size e b src k rd more) (.call c) := by
  intro env h lw hv hlk hn _
  rw [hop] at hv
  simp only [hAppNil, List.map_cons, List.map_nil, List.cons.injEq, and_true] at hv
  have hlk' := map_look (f := fun t => h[t]?) hlk
  have := T.appNil (h := h) (hsrc h hlk') hk hroom
  rw [← hv.1, ← hv.2] at this
  simp only [stepOp, hb, if_true, dirOp, ha, h1, h2, this, Option.map_some, hAppNil]
  have hn' : h.length = n := hn
  rw [hn']
/-- An index into data that never changes. -/
def hIdx (n : Nat) (xs : List AV) (len : Nat) (cap : Option Nat) (i : Int) (ys : List AV) : Hint := { vals := [.vsl xs len cap, .int .i64 i], len := n, v := .vp ys }
theorem good_idx {P : Program} {E : Eqs} {Φ : Orc} {t e : TypeId} {size : Nat} (hu : P.underlying t = some (.slice e)) (hs : szA P e = some size) {n : Nat} {xs ys : List AV} {len : Nat} {cap : Option Nat} {i : Int} {x y : Operand}
    (hi : 0 ≤ i ∧ i < len) (hy : xs.drop (i.toNat * size) = ys) : Hint.Good P E Φ (hIdx n xs len cap i ys) (.indexAddr t x y) := by
  intro env h lw hv _ _ _
  have hop : (Op.indexAddr t x y).operands.toList = [x, y] := rfl
  rw [hop] at hv
  simp only [hIdx, List.map_cons, List.map_nil, List.cons.injEq, and_true] at hv
  simp only [stepOp, dirOp, pureOp, hv.1, hv.2, indexAddrA, hu, hs, if_pos hi, hy, Option.map_some, hIdx]
  rfl
theorem good_idx_enc {P : Program} {E : Eqs} {Φ : Orc} {t e : TypeId} {k : Nat} (hu : P.underlying t = some (.slice e)) (hs : szA P e = some k) {n : Nat} {cap : Option Nat} {x y : Operand} {α : Type} {enc : α → List AV} (hk : EncK enc k) {l : List α} {i : Nat} {a : α} (ha : l[i]? = some a) :
    Hint.Good P E Φ (hIdx n (encL enc l) l.length cap i (enc a ++ encL enc (l.drop (i + 1)))) (.indexAddr t x y) := by
  obtain ⟨hi, _⟩ := List.getElem?_eq_some_iff.1 ha
  exact good_idx hu hs ⟨by omega, by omega⟩ (by rw [Int.toNat_natCast]; exact hk.drop ha)
def hLen (n : Nat) (x : AV) (k : Nat) : Hint := { vals := [x], len := n, v := .int .i64 k }
theorem good_len {P : Program} {E : Eqs} {Φ : Orc} {α : Type} {enc : α → List AV} {o : Option (List α)} {n : Nat} {x : Operand} {t e : TypeId} (hu : P.underlying t = some (.slice e)) : Hint.Good P E Φ (hLen n (encS enc o) (ls o).length) (.call ⟨.builtin .len, #[x], #[t]⟩) := by
  intro env h lw hv _ _ _
  have hop : (Op.call ⟨.builtin .len, #[x], #[t]⟩).operands.toList = [x] := rfl
  rw [hop] at hv
  simp only [hLen, List.map_cons, List.map_nil, List.cons.injEq, and_true] at hv
  cases o <;> simp only [encS] at hv <;> simp [stepOp, isBuiltin, dirOp, isAppend, builtinA, hv, hLen, ls, lowOf, Eff.none, lenA, hu]
theorem srcA_sl {h : Heap} {id len lo size : Nat} {ex : Bool} {cs : List AV} {e : TypeId} (hc : h[id]? = some (.cells cs e)) (hl : cs.length = len * size) : srcA h size (.sl id 0 len lo ex size) = some (cs, len, [id]) := by
  have h3 : List.take (len * size) cs = cs := by rw [← hl, List.take_length]
  simp only [srcA, cellsAt, hc, Nat.zero_add, hl, Nat.le_refl, if_true, List.drop_zero, h3]
theorem incr {i : Nat} (h : i ≤ 4294967295) : IntKind.i64.wrap ((i : Int) + 1) = ((i + 1 : Nat) : Int) := by
  rw [wrap64_id (by omega) (by omega)]
  omega
/-! ### a slice that grows, nil at first: its block's place is held -/
def slV (n j size : Nat) : AV := match n with | 0 => .nils | n + 1 => .sl j 0 (n + 1) (n + 1) false size
def blkV (n : Nat) (cs : List AV) (e : TypeId) : Blk := match n with | 0 => .dead | _ + 1 => .cells cs e
theorem blkV_frz {h : Heap} {m : Nat} {σ : List Nat} {n : Nat} {cs : List AV} {e : TypeId} (hc : Cls cs) : FrzB h m σ (blkV n cs e) (blkV n cs e) := by
  cases n with
  | zero => exact .dead
  | succ n => exact .same hc
theorem slV_frz {h : Heap} {σ : List Nat} {n j size : Nat} {i : Nat} (hj : σ[j]? = some i) : Frz h 0 σ (slV n i size) (slV n j size) := by
  cases n with
  | zero => exact .nils
  | succ n =>
    have := Frz.slKeep (h := h) (n := 0) (σ := σ) (off := 0) (es := size) hj (Nat.le_refl (n + 1)) (Nat.le_refl (n + 1)) (ex := false) (ex' := false) (fun e => by simp at e)
    rw [Nat.zero_add] at this
    exact this
/-- Made data: what was built so. -/
theorem slV_done {α : Type} {enc : α → List AV} {k : Nat} (hk : EncK enc k) {h : Heap} {σ : List Nat} {l : List α} {j : Nat} {e : TypeId} (hσ : j ∉ σ) (hb : h[j]? = some (blkV l.length (encL enc l) e)) : Frz h 0 σ (slV l.length j k) (encS enc (nz l)) := by
  cases l with
  | nil => exact .nils
  | cons a l => exact .slAll (Nat.zero_le _) hσ hb (hk.cls _).frzs
def hAppD (N n j size : Nat) (cs : List AV) (e : TypeId) (b : AV) (src : List AV) (rd : List Nat) (more : List (Nat × Blk)) : Hint :=
  match n with
  | 0 => hAppNil N size e b src 1 rd more
  | n + 1 => hApp N j (n + 1) size false cs e b src 1 rd more
theorem good_appD {P : Program} {E : Eqs} {Φ : Orc} {st e : TypeId} {size bytes : Nat} (T : SlT P st e size bytes) {N n j : Nat} {cs : List AV} {b : AV} {src : List AV} {rd : List Nat} {more : List (Nat × Blk)} {c : Call} {s o : Operand}
    (hb : isBuiltin c = true) (ha : isAppend c = true) (h1 : c.args.toList = [s, o]) (h2 : c.argTypes.toList = [st, st]) (hop : (Op.call c).operands.toList = [s, o])
    (hsrc : ∀ h : Heap, (∀ p ∈ more, h[p.1]? = some p.2) → srcA h size b = some (src, 1, rd)) (hl : cs.length = n * size) (hleaf : src.all leafA = true) (hroom : (n + 1) * bytes ≤ 140737488355328) :
    Hint.Good P E Φ (hAppD N n j size cs e b src rd more) (.call c) := by
  cases n with
  | zero => exact good_appNil T hb ha h1 h2 hop hsrc (by decide) (by simpa using hroom)
  | succ n => exact good_app T hb ha h1 h2 hop hsrc (.inl rfl) hl hleaf hroom
theorem kd {n id : Nat} {B : List (Nat × Blk)} {σ : List Nat} (h : n ≤ id) : (∃ x, B.lookup id = some x ∧ FrzB (spH n B) 0 σ x .dead) ∨ ((spH n B).length ≤ id ∧ Blk.dead = .dead) := .inr ⟨by rw [spH_length]; exact h, rfl⟩
end Go.Proofs.YtgcdpdkccaabcaaGreat.Ev
