/- Symbols on plain lists. Conditions: none (definitions and lemmas). -/
import Derived.Test.YtfihpghhngfelaaLkR
namespace Go.Proofs.Ytfihpghhngfelaa.Lk
open Go Go.Proofs Go.Proofs.Ytfihpghhngfelaa.Ev
set_option maxRecDepth 100000
set_option linter.unusedVariables false
set_option linter.unusedSimpArgs false
theorem T23 : SlT Try.prog 23 30 4 48 := ⟨by kernel_rfl, by kernel_rfl, by kernel_rfl, by kernel_rfl, by decide⟩
theorem T27 : SlT Try.prog 27 31 4 48 := ⟨by kernel_rfl, by kernel_rfl, by kernel_rfl, by kernel_rfl, by decide⟩
structure DSym where
  mod : ByteArray
  name : ByteArray
  kind : Int
  n : Int
def encSym (x : DSym) : List AV := [.str x.mod, .str x.name, .int .i64 x.kind, .int .i64 x.n]
theorem kSym : EncK encSym 4 := ⟨fun _ => rfl, fun _ => rfl, fun _ => .cons .str (.cons .str (.cons .int (.cons .int .nil)))⟩
theorem imSym : ∀ x, Ims (encSym x) := fun _ => .cons .str (.cons .str (.cons .int (.cons .int .nil)))
abbrev Nm := ByteArray × ByteArray
/-- Symbols of a kind, numbered. -/
def sK (kind : Int) (ps : List Nm) : List DSym := ps.mapIdx fun i p => ⟨p.1, p.2, kind, i⟩
theorem sK_len (kind : Int) (ps : List Nm) : (sK kind ps).length = ps.length := by simp [sK]
theorem sK_snoc (kind : Int) (ps : List Nm) (p : Nm) : sK kind (ps ++ [p]) = sK kind ps ++ [⟨p.1, p.2, kind, ps.length⟩] := by simp [sK, List.mapIdx_append]
theorem sK_get (kind : Int) (ps : List Nm) (i : Nat) : (sK kind ps)[i]? = (ps[i]?).map fun p => ⟨p.1, p.2, kind, i⟩ := by simp [sK]
def pVo (o : DObj) : List Nm := (ls o.vars).map fun v => (o.mod, v.name)
def pFo (o : DObj) : List Nm := (ls o.fns).map fun f => (o.mod, f.name)
def pV (l : List DObj) : List Nm := l.flatMap pVo
def pF (l : List DObj) : List Nm := l.flatMap pFo
theorem fl_split {α β : Type} (f : α → List β) {l : List α} {i : Nat} {x : α} (hx : l[i]? = some x) : l.flatMap f = (l.take i).flatMap f ++ (f x ++ (l.drop (i + 1)).flatMap f) := by
  obtain ⟨hi, rfl⟩ := List.getElem?_eq_some_iff.1 hx
  have : l = l.take i ++ (l[i] :: l.drop (i + 1)) := by simp
  exact (congrArg (List.flatMap f) this).trans (by rw [List.flatMap_append, List.flatMap_cons])
theorem fl_succ {α β : Type} (f : α → List β) {l : List α} {i : Nat} {x : α} (hx : l[i]? = some x) : (l.take (i + 1)).flatMap f = (l.take i).flatMap f ++ f x := by
  rw [List.take_add_one, hx]; simp
theorem fl_le {α β : Type} (f : α → List β) {l : List α} {i : Nat} {x : α} (hx : l[i]? = some x) {k : Nat} : ((l.take i).flatMap f ++ (f x).take k).length ≤ (l.flatMap f).length := by
  rw [fl_split f hx, List.length_append, List.length_append, List.length_append, List.length_take]
  omega
theorem fl_take {α β : Type} (f : α → List β) (l : List α) (i : Nat) : ((l.take i).flatMap f).length ≤ (l.flatMap f).length := by
  conv => rhs; rw [← List.take_append_drop i l]
  rw [List.flatMap_append, List.length_append]; omega
theorem tk_succ {α : Type} {l : List α} {k : Nat} {a : α} (ha : l[k]? = some a) : l.take (k + 1) = l.take k ++ [a] := by rw [List.take_add_one, ha]; rfl
theorem ls_map {α : Type} (f : List α → List α) (hf : f [] = []) (o : Option (List α)) : ls (o.map f) = f (ls o) := by cases o <;> simp [ls, hf]
/-- What Symbols answers. -/
def symL (l : List DObj) : List DSym := sK 1 (pV l) ++ sK 2 (pF l)
theorem nz_ne {α : Type} {l : List α} (h : l ≠ []) : nz l = some l := by cases l with
  | nil => exact absurd rfl h
  | cons a l => rfl
end Go.Proofs.Ytfihpghhngfelaa.Lk
