/- The data of the objects, as cells. Conditions: none (definitions and lemmas). -/
import Derived.Test.YtfihpghhngfelaaEvW
import Derived.Test.YtfihpghhngfelaaProg
import Derived.KernelRfl
namespace Go.Proofs.Ytfihpghhngfelaa.Lk
open Go Go.Proofs Go.Proofs.Ytfihpghhngfelaa.Ev
set_option maxRecDepth 100000
set_option linter.unusedVariables false
set_option linter.unusedSimpArgs false

def E0 : Eqs := [(61, [.int, .int]), (75, [.int, .int, .int, .int]), (90, [.int, .str, .str]), (50, [.int, .str, .int])]
theorem E0_ok : EqsOk Try.prog E0 := eqsOk_of (by kernel_rfl)
theorem mix0 : Try.prog.follows .mixedOrders = true := by kernel_rfl
theorem T22 : SlT Try.prog 22 38 4 88 := ⟨by kernel_rfl, by kernel_rfl, by kernel_rfl, by kernel_rfl, by decide⟩
theorem T25 : SlT Try.prog 25 43 4 88 := ⟨by kernel_rfl, by kernel_rfl, by kernel_rfl, by kernel_rfl, by decide⟩
theorem T34 : SlT Try.prog 34 78 3 32 := ⟨by kernel_rfl, by kernel_rfl, by kernel_rfl, by kernel_rfl, by decide⟩
theorem T35 : SlT Try.prog 35 84 5 96 := ⟨by kernel_rfl, by kernel_rfl, by kernel_rfl, by kernel_rfl, by decide⟩
theorem T36 : SlT Try.prog 36 57 5 56 := ⟨by kernel_rfl, by kernel_rfl, by kernel_rfl, by kernel_rfl, by decide⟩
theorem T39 : SlT Try.prog 39 63 3 32 := ⟨by kernel_rfl, by kernel_rfl, by kernel_rfl, by kernel_rfl, by decide⟩
theorem T40 : SlT Try.prog 40 72 5 96 := ⟨by kernel_rfl, by kernel_rfl, by kernel_rfl, by kernel_rfl, by decide⟩
theorem T41 : SlT Try.prog 41 73 5 56 := ⟨by kernel_rfl, by kernel_rfl, by kernel_rfl, by kernel_rfl, by decide⟩
theorem T65 : SlT Try.prog 65 3 1 8 := ⟨by kernel_rfl, by kernel_rfl, by kernel_rfl, by kernel_rfl, by decide⟩
theorem T80 : SlT Try.prog 80 115 4 32 := ⟨by kernel_rfl, by kernel_rfl, by kernel_rfl, by kernel_rfl, by decide⟩
theorem T68 : SlT Try.prog 68 75 4 32 := ⟨by kernel_rfl, by kernel_rfl, by kernel_rfl, by kernel_rfl, by decide⟩

structure DIns where
  op : Int
  n : Int
  ty : Int
  bits : Int
structure DFn where
  params : Option (List Int)
  result : Int
  locals : Option (List Int)
  code : Option (List DIns)
def encInt (x : Int) : List AV := [.int .i64 x]
def encIns (x : DIns) : List AV := [.int .i64 x.op, .int .i64 x.n, .int .i64 x.ty, .int .u64 x.bits]
def encFn (f : DFn) : List AV := [encS encInt f.params, .int .i64 f.result, encS encInt f.locals, encS encIns f.code]
theorem kInt : EncK encInt 1 := ⟨fun _ => rfl, fun _ => rfl, fun _ => .cons .int .nil⟩
theorem kIns : EncK encIns 4 := ⟨fun _ => rfl, fun _ => rfl, fun _ => .cons .int (.cons .int (.cons .int (.cons .int .nil)))⟩
theorem clFn (f : DFn) : Cls (encFn f) := .cons (kInt.clS _) (.cons .int (.cons (kInt.clS _) (.cons (kIns.clS _) .nil)))

theorem imInt : ∀ x, Ims (encInt x) := fun _ => .cons .int .nil
theorem imIns : ∀ x, Ims (encIns x) := fun _ => .cons .int (.cons .int (.cons .int (.cons .int .nil)))
theorem imFn (f : DFn) : Ims (encFn f) := .cons (.encS imInt _) (.cons .int (.cons (.encS imInt _) (.cons (.encS imIns _) .nil)))

structure DVar where
  name : ByteArray
  ty : Int
  bits : Int
structure DFnN where
  name : ByteArray
  fn : DFn
structure DRel where
  fn : Int
  at_ : Int
  kind : Int
  mod : ByteArray
  name : ByteArray
structure DObj where
  mod : ByteArray
  vars : Option (List DVar)
  fns : Option (List DFnN)
  rels : Option (List DRel)
def encVar (x : DVar) : List AV := [.str x.name, .int .i64 x.ty, .int .u64 x.bits]
def encFnN (x : DFnN) : List AV := .str x.name :: encFn x.fn
def encRel (x : DRel) : List AV := [.int .i64 x.fn, .int .i64 x.at_, .int .i64 x.kind, .str x.mod, .str x.name]
def encObj (o : DObj) : List AV := [.str o.mod, encS encVar o.vars, encS encFnN o.fns, encS encRel o.rels]
theorem kVar : EncK encVar 3 := ⟨fun _ => rfl, fun _ => rfl, fun _ => .cons .str (.cons .int (.cons .int .nil))⟩
theorem kFnN : EncK encFnN 5 := ⟨fun _ => rfl, fun x => by simp only [encFnN, encFn, List.all_cons, leaf_encS, List.all_nil]; rfl, fun x => .cons .str (clFn _)⟩
theorem kRel : EncK encRel 5 := ⟨fun _ => rfl, fun _ => rfl, fun _ => .cons .int (.cons .int (.cons .int (.cons .str (.cons .str .nil))))⟩
theorem kObj : EncK encObj 4 := ⟨fun _ => rfl, fun x => by simp only [encObj, List.all_cons, leaf_encS, List.all_nil]; rfl, fun x => .cons .str (.cons (kVar.clS _) (.cons (kFnN.clS _) (.cons (kRel.clS _) .nil)))⟩
theorem imVar : ∀ x, Ims (encVar x) := fun _ => .cons .str (.cons .int (.cons .int .nil))
theorem imFnN : ∀ x, Ims (encFnN x) := fun _ => .cons .str (imFn _)
theorem imRel : ∀ x, Ims (encRel x) := fun _ => .cons .int (.cons .int (.cons .int (.cons .str (.cons .str .nil))))
theorem imObj : ∀ x, Ims (encObj x) := fun _ => .cons .str (.cons (.encS imVar _) (.cons (.encS imFnN _) (.cons (.encS imRel _) .nil)))

def fnL (f : DFn) : DFn := ⟨some (ls f.params), f.result, some (ls f.locals), nz (ls f.code)⟩
def Lim : Nat := 1048576
def FnLim (f : DFn) : Prop := (ls f.params).length ≤ Lim ∧ (ls f.locals).length ≤ Lim ∧ (ls f.code).length ≤ Lim
def fnNL (x : DFnN) : DFnN := ⟨x.name, fnL x.fn⟩
def objL (o : DObj) : DObj := ⟨o.mod, nz (ls o.vars), nz ((ls o.fns).map fnNL), nz (ls o.rels)⟩
def mineL (l : Option (List DObj)) : Option (List DObj) := nz ((ls l).map objL)
def ObjLim (o : DObj) : Prop := (ls o.vars).length ≤ Lim ∧ (ls o.fns).length ≤ Lim ∧ (ls o.rels).length ≤ Lim ∧ ∀ x ∈ ls o.fns, FnLim x.fn
def ObjsLim (l : List DObj) : Prop := l.length ≤ Lim ∧ ∀ o ∈ l, ObjLim o
end Go.Proofs.Ytfihpghhngfelaa.Lk
