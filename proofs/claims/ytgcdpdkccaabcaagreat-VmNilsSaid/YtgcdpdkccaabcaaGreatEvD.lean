/- All operations that touch no memory, put together. Conditions: none (definitions and lemmas). -/
import Derived.Test.YtgcdpdkccaabcaaGreatEvC
namespace Go.Proofs.YtgcdpdkccaabcaaGreat.Ev
open Go
set_option linter.unusedVariables false
set_option linter.unusedSimpArgs false
set_option linter.unusedSectionVars false

def unA (op : UnOp) (x : AV) : Option AV :=
  match op, x with
  | .neg, .int k n => some (.int k (k.wrap (0 - n)))
  | .xor, .int k n => some (.int k (bits .xor k (if k.signed then -1 else k.max) n))
  | .not, .bool b => some (.bool (!b))
  | _, _ => none
theorem unA_run {P : Program} {L : LC} {op : UnOp} {x z : AV} {v : Value} (h : unA op x = some z) (hx : RV L x v) (w : World) : ∃ r, (Op.unary op v).run P w = .ok r w ∧ RV L z r := by
  unfold unA at h
  split at h <;> try simp only [RV] at hx
  · subst hx; cases h; exact ⟨_, by simp [Op.unary, Op.intArith], rfl⟩
  · subst hx; cases h; exact ⟨_, by simp only [Op.unary, intBits_xor]; rfl, rfl⟩
  · subst hx; cases h; exact ⟨_, by simp [Op.unary], rfl⟩
  · cases h

def convA (P : Program) (s d : TypeId) (x : AV) : Option AV :=
  match P.underlying s, P.underlying d, x with
  | some _, some (.int k), .int _ n => some (.int k (k.wrap n))
  | some .string, some .string, .str a => some (.str a)
  | _, _, _ => none
theorem convA_run {P : Program} {L : LC} {s d : TypeId} {x z : AV} {v : Value} (h : convA P s d x = some z) (hx : RV L x v) (w : World) : ∃ r, (convert s d v).run P w = .ok r w ∧ RV L z r := by
  unfold convA at h
  split at h <;> try simp only [RV] at hx
  · rename_i hs hd
    subst hx; cases h
    exact ⟨_, by simp [convert, run_underlying hs, run_underlying hd, Conv.intToInt], rfl⟩
  · rename_i hs hd
    subst hx; cases h
    exact ⟨_, by simp [convert, run_underlying hs, run_underlying hd], rfl⟩
  · cases h

/-! ### slices -/
/-- A bound: it lies between 0 and y. -/
def bndA (y : Nat) : AV → Option Nat
  | .int _ i => if 0 ≤ i ∧ i ≤ y then some i.toNat else none
  | _ => none
theorem bndA_run {P : Program} {L : LC} {y n : Nat} {x : AV} {v : Value} (h : bndA y x = some n) (hx : RV L x v) (y' : Nat) (hy : y ≤ y') (code : BoundsCode) (w : World) : (Instr.sliceBound v y' code).run P w = .ok n w ∧ n ≤ y := by
  cases x <;> simp only [bndA, reduceCtorEq] at h
  rename_i k i
  simp only [RV] at hx
  subst hx
  by_cases hb : 0 ≤ i ∧ i ≤ y
  · rw [if_pos hb] at h
    cases h
    have hb' : 0 ≤ i ∧ i ≤ y' := by omega
    refine ⟨?_, by omega⟩
    simp [Instr.sliceBound, asIntOf, hb']
  · rw [if_neg hb] at h; cases h
def optA (f : AV → Option Nat) (dflt : Nat) : Option AV → Option Nat
  | some x => f x
  | none => some dflt
/-- x[lo:hi] (and x[lo:hi:max] where all three are given). -/
def sliceA (P : Program) (t : TypeId) (x : AV) (lo hi mx : Option AV) : Option AV :=
  match P.underlying t, x, mx with
  | some .string, .str s, none => do
    let h ← optA (bndA s.size) s.size hi
    let l ← optA (bndA h) 0 lo
    some (.str (s.extract l h))
  | some (.slice e), .nils, none => do
    let _ ← szA P e
    let h ← optA (bndA 0) 0 hi
    let l ← optA (bndA h) 0 lo
    some .nils
  | some (.slice e), .sl id off len c ex es, none => do
    let size ← szA P e
    let h ← optA (bndA c) len hi
    let l ← optA (bndA h) 0 lo
    if es = size then
      if c = l then some (.vsl [] 0 (if ex then some 0 else none)) else some (.sl id (off + l * size) (h - l) (c - l) ex es)
    else none
  | some (.slice e), .vsl xs n c, none => do
    let size ← szA P e
    let h ← optA (bndA n) n hi
    let l ← optA (bndA h) 0 lo
    if h = l then some (.vsl [] 0 (c.map (· - l))) else some (.vsl ((xs.drop (l * size)).take ((h - l) * size)) (h - l) (c.map (· - l)))
  | some (.slice e), .nils, some m => do
    let _ ← szA P e
    let m ← bndA 0 m
    let h ← (hi.bind (bndA m))
    let l ← optA (bndA h) 0 lo
    some .nils
  | some (.slice e), .sl id off len c ex es, some m => do
    let size ← szA P e
    let m ← bndA c m
    let h ← (hi.bind (bndA m))
    let l ← optA (bndA h) 0 lo
    if es = size then
      if m = l then some (.vsl [] 0 (some 0)) else some (.sl id (off + l * size) (h - l) (m - l) true es)
    else none
  | some (.slice e), .vsl xs n c, some m => do
    let size ← szA P e
    let m ← bndA n m
    let h ← (hi.bind (bndA m))
    let l ← optA (bndA h) 0 lo
    if h = l then some (.vsl [] 0 (some (m - l))) else some (.vsl ((xs.drop (l * size)).take ((h - l) * size)) (h - l) (some (m - l)))
  | _, _, _ => none

theorem optA_run {P : Program} {L : LC} {y d n : Nat} {x : Option AV} {v : Option Value} (h : optA (bndA y) d x = some n) (hx : ∀ a, x = some a → ∃ b, v = some b ∧ RV L a b) (hn : x = none → v = none) (hd : d ≤ y) :
    n ≤ y ∧ ((v = none ∧ n = d) ∨ ∃ b, v = some b ∧ ∀ (y' : Nat), y ≤ y' → ∀ code w, (Instr.sliceBound b y' code).run P w = .ok n w) := by
  cases x with
  | none => cases h; exact ⟨hd, .inl ⟨hn rfl, rfl⟩⟩
  | some a =>
    obtain ⟨b, rfl, hb⟩ := hx a rfl
    have hle := (bndA_run (P := P) h hb y (Nat.le_refl _) .index default).2
    exact ⟨hle, .inr ⟨b, rfl, fun y' hy' code w => (bndA_run h hb y' hy' code w).1⟩⟩
/-- What is owed of optional operands. -/
def RO (L : LC) (x : Option AV) (v : Option Value) : Prop := (∀ a, x = some a → ∃ b, v = some b ∧ RV L a b) ∧ (x = none → v = none)
theorem bounds_run {P : Program} {L : LC} {isS : Bool} {len cap : Nat} {lo hi : Option AV} {vl vh : Option Value} {h l c : Nat} (hc : c ≤ cap) (hlen : len ≤ c) (h1 : optA (bndA c) len hi = some h) (h2 : optA (bndA h) 0 lo = some l) (hlo : RO L lo vl) (hhi : RO L hi vh) (w : World) :
    (Instr.sliceBounds isS len cap vl vh none).run P w = .ok (l, h, cap) w ∧ l ≤ h ∧ h ≤ c := by
  obtain ⟨hh, h1'⟩ := optA_run (P := P) h1 hhi.1 hhi.2 hlen
  obtain ⟨hl, h2'⟩ := optA_run (P := P) h2 hlo.1 hlo.2 (Nat.zero_le _)
  refine ⟨?_, hl, hh⟩
  rcases h1' with ⟨rfl, rfl⟩ | ⟨b, rfl, hb⟩ <;> rcases h2' with ⟨rfl, rfl⟩ | ⟨b2, rfl, hb2⟩ <;> simp [Instr.sliceBounds, *]
theorem bounds3_run {P : Program} {L : LC} {isS : Bool} {len cap : Nat} {lo : Option AV} {hi mx : AV} {vl : Option Value} {vh vm : Value} {h l c m : Nat} (hc : c ≤ cap) (h0 : bndA c mx = some m) (h1 : bndA m hi = some h) (h2 : optA (bndA h) 0 lo = some l) (hlo : RO L lo vl) (hhi : RV L hi vh) (hmx : RV L mx vm) (w : World) :
    (Instr.sliceBounds isS len cap vl (some vh) (some vm)).run P w = .ok (l, h, m) w ∧ l ≤ h ∧ h ≤ m ∧ m ≤ c := by
  have r0 := fun code => bndA_run (P := P) h0 hmx cap hc code w
  have r1 := fun code => bndA_run (P := P) h1 hhi m (Nat.le_refl _) code w
  obtain ⟨hl, h2'⟩ := optA_run (P := P) h2 hlo.1 hlo.2 (Nat.zero_le _)
  refine ⟨?_, hl, (r1 .index).2, (r0 .index).2⟩
  rcases h2' with ⟨rfl, rfl⟩ | ⟨b2, rfl, hb2⟩ <;> simp [Instr.sliceBounds, *]

theorem add_plain (b o n : Nat) : (⟨b, o, none⟩ : Addr).add n = ⟨b, o + n, none⟩ := by
  unfold Addr.add
  split
  · rename_i h; subst h; rfl
  · rfl
theorem some_bind {α β : Type} {x : Option α} {f : α → Option β} {b : β} (h : (x >>= f) = some b) : ∃ a, x = some a ∧ f a = some b := Option.bind_eq_some_iff.1 h

theorem sliceA_run {P : Program} {L : LC} {t : TypeId} {x z : AV} {lo hi mx : Option AV} {v : Value} {vl vh vm : Option Value} (h : sliceA P t x lo hi mx = some z) (hx : RV L x v) (hlo : RO L lo vl) (hhi : RO L hi vh) (hmx : RO L mx vm) (w : World) :
    ∃ r, (Instr.sliceAt t v vl vh vm).run P w = .ok r w ∧ RV L z r := by
  unfold sliceA at h
  split at h
  · -- a string
    rename_i s hu
    simp only [RV] at hx; subst hx
    have hm : vm = none := hmx.2 rfl
    subst hm
    obtain ⟨h', e1, h⟩ := some_bind h
    obtain ⟨l', e2, h⟩ := some_bind h
    cases h
    have hb := (bounds_run (P := P) (isS := false) (Nat.le_refl s.size) (Nat.le_refl _) e1 e2 hlo hhi w).1
    exact ⟨_, by simp [Instr.sliceAt, Instr.slice, run_underlying hu, hb], rfl⟩
  · rename_i e hu
    simp only [RV] at hx; subst hx
    have hm : vm = none := hmx.2 rfl
    subst hm
    obtain ⟨size, hs, h⟩ := some_bind h
    obtain ⟨h', e1, h⟩ := some_bind h
    obtain ⟨l', e2, h⟩ := some_bind h
    cases h
    obtain ⟨hb, hl, hh⟩ := bounds_run (P := P) (isS := true) (Nat.le_refl 0) (Nat.le_refl _) e1 e2 hlo hhi w
    obtain rfl : h' = 0 := by omega
    obtain rfl : l' = 0 := by omega
    refine ⟨.slice none 0 0, by simp [Instr.sliceAt, Instr.slice, run_underlying hu, hb, run_sizeOf' w hs], by simp [RV]⟩
  · rename_i e id off len c ex es hu
    simp only [RV] at hx
    obtain ⟨p, cap, hp, rfl, hc, hlen, hex, hfit⟩ := hx
    have hm : vm = none := hmx.2 rfl
    subst hm
    obtain ⟨size, hs, h⟩ := some_bind h
    obtain ⟨h', e1, h⟩ := some_bind h
    obtain ⟨l', e2, h⟩ := some_bind h
    by_cases hes : es = size
    · rw [if_pos hes] at h
      subst hes
      obtain ⟨hb, hl, hh⟩ := bounds_run (P := P) (isS := true) hc hlen e1 e2 hlo hhi w
      have hrun : (Instr.sliceAt t (.slice (some ⟨p.b, p.o + off, none⟩) len cap) vl vh none).run P w = .ok (.slice (if cap = l' then some ⟨p.b, p.o + off, none⟩ else some ⟨p.b, p.o + off + l' * es, none⟩) (h' - l') (cap - l')) w := by
        simp [Instr.sliceAt, Instr.slice, run_underlying hu, hb, run_sizeOf' w hs, add_plain]
      refine ⟨_, hrun, ?_⟩
      by_cases hcl : c = l'
      · rw [if_pos hcl] at h
        cases h
        refine ⟨if cap = l' then ⟨p.b, p.o + off, none⟩ else ⟨p.b, p.o + off + l' * es, none⟩, cap - l', ?_, Nat.zero_le _, ?_, .inl ⟨rfl, rfl⟩⟩
        · have : h' - l' = 0 := by omega
          rw [this]
          split <;> rfl
        · intro k hk
          cases ex with
          | false => simp at hk
          | true =>
            simp at hk
            have := hex rfl
            omega
      · rw [if_neg hcl] at h
        cases h
        have : cap ≠ l' := by omega
        rw [if_neg this]
        refine ⟨p, cap - l', hp, by rw [Nat.add_assoc], by omega, by omega, fun e => by have := hex e; omega, ?_⟩
        have h1 : l' * es + (cap - l') * es = cap * es := by rw [← Nat.add_mul]; congr 1; omega
        omega
    · rw [if_neg hes] at h; cases h
  · rename_i e xs n c hu
    simp only [RV] at hx
    obtain ⟨a, cap, rfl, hc, hex, hfit⟩ := hx
    have hm : vm = none := hmx.2 rfl
    subst hm
    obtain ⟨size, hs, h⟩ := some_bind h
    obtain ⟨h', e1, h⟩ := some_bind h
    obtain ⟨l', e2, h⟩ := some_bind h
    obtain ⟨hb, hl, hh⟩ := bounds_run (P := P) (isS := true) hc (Nat.le_refl _) e1 e2 hlo hhi w
    have hrun : (Instr.sliceAt t (.slice (some a) n cap) vl vh none).run P w = .ok (.slice (some (if cap = l' then a else a.add (l' * size))) (h' - l') (cap - l')) w := by
      simp only [Instr.sliceAt, Instr.slice, Sem.run_bind, run_underlying hu, Result.andThen_ok, hb, run_sizeOf' w hs, Sem.run_pure]
      split <;> rfl
    refine ⟨_, hrun, ?_⟩
    by_cases hcl : h' = l'
    · rw [if_pos hcl] at h
      cases h
      refine ⟨_, cap - l', by rw [hcl, Nat.sub_self], Nat.zero_le _, ?_, .inl ⟨rfl, rfl⟩⟩
      intro k hk
      obtain ⟨k', hk', rfl⟩ := Option.map_eq_some_iff.1 hk
      rw [hex k' hk']
    · rw [if_neg hcl] at h
      cases h
      have : cap ≠ l' := by omega
      rw [if_neg this]
      refine ⟨_, cap - l', rfl, by omega, ?_, .inr ?_⟩
      · intro k hk
        obtain ⟨k', hk', rfl⟩ := Option.map_eq_some_iff.1 hk
        rw [hex k' hk']
      · rcases hfit with ⟨h0, _⟩ | ⟨cs, hm, hsp, hr⟩
        · omega
        · obtain ⟨ab, ao, asp⟩ := a
          simp only at hsp hm hr
          subst hsp
          refine ⟨cs, by rw [add_plain]; exact hm, by rw [add_plain], ?_⟩
          rw [add_plain]
          have hr1 := (hr.drop (l' * size)).take ((h' - l') * size)
          have hlen : ((xs.drop (l' * size)).take ((h' - l') * size)).length ≤ xs.length - l' * size := by simp; omega
          have e1 : (((cs.drop ao).take xs.length).drop (l' * size)).take ((h' - l') * size) = (cs.drop (ao + l' * size)).take (min ((h' - l') * size) (xs.length - l' * size)) := by
            rw [List.drop_take, List.take_take, List.drop_drop]
          have e2 : ((xs.drop (l' * size)).take ((h' - l') * size)).length = min ((h' - l') * size) (xs.length - l' * size) := by simp
          rw [e1] at hr1
          rw [e2]
          exact hr1
  · rename_i e m hu
    simp only [RV] at hx; subst hx
    obtain ⟨vm', rfl, hvm⟩ := hmx.1 m rfl
    obtain ⟨size, hs, h⟩ := some_bind h
    obtain ⟨m', e0, h⟩ := some_bind h
    obtain ⟨h', e1, h⟩ := some_bind h
    obtain ⟨l', e2, h⟩ := some_bind h
    obtain ⟨hi', ehi, e1⟩ := Option.bind_eq_some_iff.1 e1
    obtain ⟨vh', evh, hvh⟩ := hhi.1 hi' ehi
    subst evh
    cases h
    obtain ⟨hb, hl, hh, hmm⟩ := bounds3_run (P := P) (isS := true) (len := 0) (Nat.le_refl 0) e0 e1 e2 hlo hvh hvm w
    obtain rfl : m' = 0 := by omega
    obtain rfl : h' = 0 := by omega
    obtain rfl : l' = 0 := by omega
    refine ⟨.slice none 0 0, by simp [Instr.sliceAt, Instr.slice, run_underlying hu, hb, run_sizeOf' w hs], by simp [RV]⟩
  · rename_i e id off len c ex es m hu
    simp only [RV] at hx
    obtain ⟨p, cap, hp, rfl, hc, hlen, hex, hfit⟩ := hx
    obtain ⟨vm', rfl, hvm⟩ := hmx.1 m rfl
    obtain ⟨size, hs, h⟩ := some_bind h
    obtain ⟨m', e0, h⟩ := some_bind h
    obtain ⟨h', e1, h⟩ := some_bind h
    obtain ⟨l', e2, h⟩ := some_bind h
    obtain ⟨hi', ehi, e1⟩ := Option.bind_eq_some_iff.1 e1
    obtain ⟨vh', evh, hvh⟩ := hhi.1 hi' ehi
    subst evh
    by_cases hes : es = size
    · rw [if_pos hes] at h
      subst hes
      obtain ⟨hb, hl, hh, hmm⟩ := bounds3_run (P := P) (isS := true) (len := len) hc e0 e1 e2 hlo hvh hvm w
      have hrun : (Instr.sliceAt t (.slice (some ⟨p.b, p.o + off, none⟩) len cap) vl (some vh') (some vm')).run P w = .ok (.slice (if m' = l' then some ⟨p.b, p.o + off, none⟩ else some ⟨p.b, p.o + off + l' * es, none⟩) (h' - l') (m' - l')) w := by
        simp [Instr.sliceAt, Instr.slice, run_underlying hu, hb, run_sizeOf' w hs, add_plain]
      refine ⟨_, hrun, ?_⟩
      by_cases hcl : m' = l'
      · rw [if_pos hcl] at h
        cases h
        rw [if_pos hcl]
        refine ⟨⟨p.b, p.o + off, none⟩, m' - l', ?_, Nat.zero_le _, ?_, .inl ⟨rfl, rfl⟩⟩
        · have : h' - l' = 0 := by omega
          rw [this]
        · intro k hk
          simp at hk
          omega
      · rw [if_neg hcl] at h
        cases h
        rw [if_neg hcl]
        refine ⟨p, m' - l', hp, by rw [Nat.add_assoc], by omega, by omega, fun _ => rfl, ?_⟩
        have h1 : l' * es + (m' - l') * es = m' * es := by rw [← Nat.add_mul]; congr 1; omega
        have h2 : m' * es ≤ cap * es := Nat.mul_le_mul_right _ (by omega)
        omega
    · rw [if_neg hes] at h; cases h
  · rename_i e xs n c m hu
    simp only [RV] at hx
    obtain ⟨a, cap, rfl, hc, hex, hfit⟩ := hx
    obtain ⟨vm', rfl, hvm⟩ := hmx.1 m rfl
    obtain ⟨size, hs, h⟩ := some_bind h
    obtain ⟨m', e0, h⟩ := some_bind h
    obtain ⟨h', e1, h⟩ := some_bind h
    obtain ⟨l', e2, h⟩ := some_bind h
    obtain ⟨hi', ehi, e1⟩ := Option.bind_eq_some_iff.1 e1
    obtain ⟨vh', evh, hvh⟩ := hhi.1 hi' ehi
    subst evh
    obtain ⟨hb, hl, hh, hmm⟩ := bounds3_run (P := P) (isS := true) (len := n) hc e0 e1 e2 hlo hvh hvm w
    have hrun : (Instr.sliceAt t (.slice (some a) n cap) vl (some vh') (some vm')).run P w = .ok (.slice (some (if m' = l' then a else a.add (l' * size))) (h' - l') (m' - l')) w := by
      simp only [Instr.sliceAt, Instr.slice, Sem.run_bind, run_underlying hu, Result.andThen_ok, hb, run_sizeOf' w hs, Sem.run_pure]
      split <;> rfl
    refine ⟨_, hrun, ?_⟩
    by_cases hcl : h' = l'
    · rw [if_pos hcl] at h
      cases h
      refine ⟨_, m' - l', by rw [hcl, Nat.sub_self], Nat.zero_le _, ?_, .inl ⟨rfl, rfl⟩⟩
      intro k hk
      exact Option.some.inj hk
    · rw [if_neg hcl] at h
      cases h
      have : m' ≠ l' := by omega
      rw [if_neg this]
      refine ⟨_, m' - l', rfl, by omega, ?_, .inr ?_⟩
      · intro k hk
        exact Option.some.inj hk
      · rcases hfit with ⟨h0, _⟩ | ⟨cs, hm, hsp, hr⟩
        · omega
        · obtain ⟨ab, ao, asp⟩ := a
          simp only at hsp hm hr
          subst hsp
          refine ⟨cs, by rw [add_plain]; exact hm, by rw [add_plain], ?_⟩
          rw [add_plain]
          have hr1 := (hr.drop (l' * size)).take ((h' - l') * size)
          have e1 : (((cs.drop ao).take xs.length).drop (l' * size)).take ((h' - l') * size) = (cs.drop (ao + l' * size)).take (min ((h' - l') * size) (xs.length - l' * size)) := by
            rw [List.drop_take, List.take_take, List.drop_drop]
          have e2 : ((xs.drop (l' * size)).take ((h' - l') * size)).length = min ((h' - l') * size) (xs.length - l' * size) := by simp
          rw [e1] at hr1
          rw [e2]
          exact hr1
  · cases h

/-! ### addresses -/
/-- A pointer, so many cells on. -/
def addA (x : AV) (n : Nat) : Option AV :=
  match x with
  | .ptr id off => some (.ptr id (off + n))
  | .vp xs => some (.vp (xs.drop n))
  | _ => none
theorem addA_rel {L : LC} {x z : AV} {n : Nat} {v : Value} (h : addA x n = some z) (hx : RV L x v) : ∃ a : Addr, v = .pointer (some a) ∧ RV L z (.pointer (some (a.add n))) := by
  unfold addA at h
  split at h
  · cases h
    simp only [RV] at hx
    obtain ⟨p, hp, rfl⟩ := hx
    exact ⟨_, rfl, p, hp, by rw [add_plain, Nat.add_assoc]⟩
  · cases h
    rename_i xs
    simp only [RV] at hx
    obtain ⟨b, o, c, hm, rfl, hr⟩ := hx
    refine ⟨_, rfl, b, o + n, c, hm, by rw [add_plain], ?_⟩
    have := hr.drop n
    rw [List.drop_take, List.drop_drop] at this
    rw [List.length_drop]
    exact this
  · cases h
def fieldAddrA (P : Program) (s : TypeId) (x : AV) (i : Nat) : Option AV :=
  match P.underlying s with
  | some (.struct fs) => match fs[i]? with
    | some f => match szA P f.type with
      | some n => if n = 0 then none else addA x f.offset
      | none => none
    | none => none
  | _ => none
theorem fieldAddrA_run {P : Program} {L : LC} {s : TypeId} {x z : AV} {i : Nat} {v : Value} (h : fieldAddrA P s x i = some z) (hx : RV L x v) (w : World) : ∃ r, (Instr.fieldAt s v i).run P w = .ok r w ∧ RV L z r := by
  unfold fieldAddrA at h
  split at h
  · rename_i fs hu
    split at h
    · rename_i f hf
      split at h
      · rename_i n hn
        by_cases h0 : n = 0
        · rw [if_pos h0] at h; cases h
        · rw [if_neg h0] at h
          obtain ⟨a, rfl, hz⟩ := addA_rel h hx
          exact ⟨_, by simp [Instr.fieldAt, run_underlying hu, hf, Instr.sureAddr, fieldPlace, run_sizeOf' w hn, h0], hz⟩
      · cases h
    · cases h
  · cases h
def fieldA (P : Program) (s : TypeId) (x : AV) (i : Nat) : Option AV :=
  match P.underlying s, x with
  | some (.struct fs), .agg cs => match fs[i]? with
    | some f => partA P f.type cs f.offset
    | none => none
  | _, _ => none
theorem fieldA_run {P : Program} {L : LC} {s : TypeId} {x z : AV} {i : Nat} {v : Value} (h : fieldA P s x i = some z) (hx : RV L x v) (w : World) : ∃ r, (Instr.field s v i).run P w = .ok r w ∧ RV L z r := by
  unfold fieldA at h
  split at h
  · rename_i fs cs hu
    split at h
    · rename_i f hf
      simp only [RV] at hx
      obtain ⟨vs, rfl, hvs⟩ := hx
      obtain ⟨r, hr, hz⟩ := partA_run h hvs w
      exact ⟨r, by simp [Instr.field, run_underlying hu, hf, asAgg, hr], hz⟩
    · cases h
  · cases h
def indexAddrA (P : Program) (t : TypeId) (x ix : AV) : Option AV :=
  match P.underlying t, x, ix with
  | some (.slice e), .sl id off len _ _ _, .int _ i => match szA P e with
    | some n => if 0 ≤ i ∧ i < len then some (.ptr id (off + i.toNat * n)) else none
    | none => none
  | some (.slice e), .vsl xs len _, .int _ i => match szA P e with
    | some n => if 0 ≤ i ∧ i < len then some (.vp (xs.drop (i.toNat * n))) else none
    | none => none
  | some (.array len e), x, .int _ i => match szA P e with
    | some n => if 0 ≤ i ∧ i < len then addA x (i.toNat * n) else none
    | none => none
  | _, _, _ => none
theorem indexAddrA_run {P : Program} {L : LC} {t : TypeId} {x ix z : AV} {v u : Value} (h : indexAddrA P t x ix = some z) (hx : RV L x v) (hi : RV L ix u) (w : World) : ∃ r, (Instr.indexAt t v u).run P w = .ok r w ∧ RV L z r := by
  unfold indexAddrA at h
  split at h
  · rename_i e id off len lo ex es k i hu
    simp only [RV] at hi hx; subst hi
    obtain ⟨p, cap, hp, rfl, _⟩ := hx
    cases hn : szA P e with
    | none => simp [hn] at h
    | some n =>
      simp only [hn] at h
      by_cases hb : 0 ≤ i ∧ i < len
      · rw [if_pos hb] at h; cases h
        exact ⟨.pointer (some ⟨p.b, p.o + off + i.toNat * n, none⟩), by simp [Instr.indexAt, asIntOf, run_underlying hu, hb, run_sizeOf' w hn, add_plain], p, hp, by rw [Nat.add_assoc]⟩
      · rw [if_neg hb] at h; cases h
  · rename_i e xs len cap k i hu
    simp only [RV] at hi hx; subst hi
    obtain ⟨a, c, rfl, _, _, hx⟩ := hx
    cases hn : szA P e with
    | none => simp [hn] at h
    | some n =>
      simp only [hn] at h
      by_cases hb : 0 ≤ i ∧ i < len
      · rw [if_pos hb] at h; cases h
        rcases hx with ⟨h0, _⟩ | ⟨cs, hm, hsp, hr⟩
        · omega
        · obtain ⟨ab, ao, asp⟩ := a
          simp only at hsp hm hr
          subst hsp
          refine ⟨.pointer (some ⟨ab, ao + i.toNat * n, none⟩), by simp [Instr.indexAt, asIntOf, run_underlying hu, hb, run_sizeOf' w hn, add_plain], ab, ao + i.toNat * n, cs, hm, rfl, ?_⟩
          have := hr.drop (i.toNat * n)
          rw [List.drop_take, List.drop_drop] at this
          rw [List.length_drop]
          exact this
      · rw [if_neg hb] at h; cases h
  · rename_i len e k i hu
    simp only [RV] at hi; subst hi
    cases hn : szA P e with
    | none => simp [hn] at h
    | some n =>
      simp only [hn] at h
      by_cases hb : 0 ≤ i ∧ i < len
      · rw [if_pos hb] at h
        obtain ⟨a, rfl, hz⟩ := addA_rel h hx
        exact ⟨_, by simp [Instr.indexAt, asIntOf, run_underlying hu, Instr.sureAddr, hb, run_sizeOf' w hn], hz⟩
      · rw [if_neg hb] at h; cases h
  · cases h

def byteAt (s : ByteArray) (i : Nat) : Int := ((s.data.toList[i]?).map fun b => (b.toNat : Int)).getD 0
def indexA (P : Program) (t : TypeId) (x ix : AV) : Option AV :=
  match P.underlying t, x, ix with
  | some (.array len e), .agg cs, .int _ i => match szA P e with
    | some n => if 0 ≤ i ∧ i < len then partA P e cs (i.toNat * n) else none
    | none => none
  | some .string, .str s, .int _ i => if 0 ≤ i ∧ i < s.size then some (.int .u8 (byteAt s i.toNat)) else none
  | _, _, _ => none
theorem indexA_run {P : Program} {L : LC} {t : TypeId} {x ix z : AV} {v u : Value} (h : indexA P t x ix = some z) (hx : RV L x v) (hi : RV L ix u) (w : World) : ∃ r, (Instr.index t v u).run P w = .ok r w ∧ RV L z r := by
  unfold indexA at h
  split at h
  · rename_i len e cs k i hu
    simp only [RV] at hi hx; subst hi
    obtain ⟨vs, rfl, hvs⟩ := hx
    cases hn : szA P e with
    | none => simp [hn] at h
    | some n =>
      simp only [hn] at h
      by_cases hb : 0 ≤ i ∧ i < len
      · rw [if_pos hb] at h
        obtain ⟨r, hr, hz⟩ := partA_run h hvs w
        exact ⟨r, by simp [Instr.index, asIntOf, run_underlying hu, hb, run_sizeOf' w hn, hr], hz⟩
      · rw [if_neg hb] at h; cases h
  · rename_i s k i hu
    simp only [RV] at hi hx; subst hi; subst hx
    by_cases hb : 0 ≤ i ∧ i < s.size
    · rw [if_pos hb] at h; cases h
      have hlt : i.toNat < s.size := by omega
      have hlt2 : i.toNat < s.data.toList.length := by rw [Array.length_toList]; exact hlt
      have he : s[i.toNat]? = some s[i.toNat] := by simp [hlt]
      have hbt : byteAt s i.toNat = (s[i.toNat].toNat : Int) := by
        unfold byteAt
        rw [List.getElem?_eq_getElem hlt2]
        rfl
      exact ⟨.int .u8 s[i.toNat].toNat, by simp [Instr.index, asIntOf, run_underlying hu, hb.1, he], by rw [hbt]; rfl⟩
    · rw [if_neg hb] at h; cases h
  · cases h
end Go.Proofs.YtgcdpdkccaabcaaGreat.Ev
