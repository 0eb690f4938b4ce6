/- Regions that draw their order: the theorem. Conditions: none (definitions and lemmas). -/
import Derived.Test.YtgcdpdkccaabcaaGreatEvL
namespace Go.Proofs.YtgcdpdkccaabcaaGreat.Ev
open Go
set_option linter.unusedVariables false
set_option linter.unusedSimpArgs false
set_option linter.unusedSectionVars false

/-- What is known below a number alone. -/
def LC.cut (L : LC) (n : Nat) : LC := ⟨L.m, fun id => if id < n then L.ρ id else none, fun id => id < n ∧ L.dead id⟩
theorem LC.cut_ρ {L : LC} {n id : Nat} {p : Pl} : (L.cut n).ρ id = some p ↔ id < n ∧ L.ρ id = some p := by
  simp only [LC.cut]
  by_cases h : id < n <;> simp [h]
theorem LC.cut_le {L L' : LC} {n k : Nat} (hm : ∀ b c, L.m b = some c → L'.m b = some c) (hρ : ∀ id p, id < n → L.ρ id = some p → L'.ρ id = some p ∨ L'.dead id) (hd : ∀ id, id < n → L.dead id → L'.dead id) (hnk : n ≤ k) : LE (L.cut n) (L'.cut k) :=
  ⟨hm, fun id p e => by
    obtain ⟨h1, h2⟩ := LC.cut_ρ.1 e
    rcases hρ id p h1 h2 with q | q
    · exact .inl (LC.cut_ρ.2 ⟨by omega, q⟩)
    · exact .inr ⟨by omega, q⟩, fun id d => ⟨by have := d.1; omega, hd id d.1 d.2⟩⟩
theorem LC.cut_self {L : LC} {n : Nat} : LE (L.cut n) L := ⟨fun _ _ e => e, fun id p e => .inl (LC.cut_ρ.1 e).2, fun id d => d.2⟩

section draw
variable {P : Program} {E : Eqs} {Φ : Orc} {ops : List Oper} {env0 env' : List AV} {h0 h' : Heap} {lw0 lwn : Nat} (T : Told P E Φ ops env0 h0 lw0 env' h' lwn)

def Told.mods (t id : Nat) : Prop := (T.eF t).mods id ∧ id < (T.hF t).length
def Told.makes (t id : Nat) : Prop := (T.hF t).length ≤ id ∧ id < (T.hF (t + 1)).length
open Classical in
/-- What a block holds, when the operations of S have been carried out (of the first k). -/
noncomputable def Told.cont (S : Nat → Prop) : Nat → Nat → Option Blk
  | 0, id => h0[id]?
  | t + 1, id => if S t ∧ (T.mods t id ∨ T.makes t id) then (T.hF (t + 1))[id]? else Told.cont S t id
open Classical in
/-- Below which number lies all that it knows. -/
noncomputable def Told.bnd (S : Nat → Prop) : Nat → Nat → Nat
  | 0, _ => h0.length
  | t + 1, id => if S t ∧ (T.mods t id ∨ T.makes t id) then (T.hF (t + 1)).length else Told.bnd S t id
open Classical in
noncomputable def Told.val (S : Nat → Prop) : Nat → Nat → Option (AV × Nat)
  | 0, τ => (env0[τ]?).map fun x => (x, h0.length)
  | t + 1, τ => if S t ∧ (ops[t]?).bind (·.dst) = some τ then some (T.vF t, (T.hF (t + 1)).length) else Told.val S t τ

variable (hΦ : OrcOk P Φ)
theorem Told.mono1 (hΦ : OrcOk P Φ) {i : Nat} (hi : i < ops.length) : (T.hF i).length ≤ (T.hF (i + 1)).length := (T.line i ops[i] (List.getElem?_eq_getElem hi)).len hΦ
theorem Told.mono (hΦ : OrcOk P Φ) {i j : Nat} (h : i ≤ j) (hj : j ≤ ops.length) : (T.hF i).length ≤ (T.hF j).length := by
  induction j with
  | zero => obtain rfl : i = 0 := by omega
            exact Nat.le_refl _
  | succ j ih =>
    rcases Nat.lt_or_ge i (j + 1) with k | k
    · exact Nat.le_trans (ih (by omega) (by omega)) (T.mono1 hΦ (by omega))
    · obtain rfl : i = j + 1 := by omega
      exact Nat.le_refl _
theorem Told.cont_same {S : Nat → Prop} {id j : Nat} : ∀ {n : Nat}, j ≤ n → (∀ t, j ≤ t → t < n → S t → ¬ T.mods t id ∧ ¬ T.makes t id) → T.cont S n id = T.cont S j id := by
  intro n
  induction n with
  | zero => intro h _; obtain rfl : j = 0 := by omega
            rfl
  | succ n ih =>
    intro h hn
    rcases Nat.lt_or_ge j (n + 1) with k | k
    · have e : T.cont S (n + 1) id = T.cont S n id := by
        simp only [Told.cont]
        rw [if_neg]
        rintro ⟨hs, hm⟩
        have := hn n (by omega) (by omega) hs
        exact hm.elim this.1 this.2
      rw [e]
      exact ih (by omega) fun t h1 h2 => hn t h1 (by omega)
    · obtain rfl : j = n + 1 := by omega
      rfl
theorem Told.bnd_same {S : Nat → Prop} {id j : Nat} : ∀ {n : Nat}, j ≤ n → (∀ t, j ≤ t → t < n → S t → ¬ T.mods t id ∧ ¬ T.makes t id) → T.bnd S n id = T.bnd S j id := by
  intro n
  induction n with
  | zero => intro h _; obtain rfl : j = 0 := by omega
            rfl
  | succ n ih =>
    intro h hn
    rcases Nat.lt_or_ge j (n + 1) with k | k
    · have e : T.bnd S (n + 1) id = T.bnd S n id := by
        simp only [Told.bnd]
        rw [if_neg]
        rintro ⟨hs, hm⟩
        have := hn n (by omega) (by omega) hs
        exact hm.elim this.1 this.2
      rw [e]
      exact ih (by omega) fun t h1 h2 => hn t h1 (by omega)
    · obtain rfl : j = n + 1 := by omega
      rfl
theorem Told.bnd_le (hΦ : OrcOk P Φ) {S : Nat → Prop} {id : Nat} : ∀ {k : Nat}, k ≤ ops.length → T.bnd S k id ≤ (T.hF k).length := by
  intro k
  induction k with
  | zero => intro _; simp only [Told.bnd, T.h_0]; exact Nat.le_refl _
  | succ k ih =>
    intro hk
    simp only [Told.bnd]
    split
    · exact Nat.le_refl _
    · exact Nat.le_trans (ih (by omega)) (T.mono1 hΦ (by omega))
theorem Told.low (hΦ : OrcOk P Φ) {i : Nat} : ∀ {j : Nat}, i ≤ j → j ≤ ops.length → T.lF j ≤ T.lF i := by
  intro j
  induction j with
  | zero => intro h _; obtain rfl : i = 0 := by omega
            exact Nat.le_refl _
  | succ j ih =>
    intro h hj
    rcases Nat.lt_or_ge i (j + 1) with k | k
    · have hi : j < ops.length := by omega
      exact Nat.le_trans ((T.line j ops[j] (List.getElem?_eq_getElem hi)).low hΦ).1 (ih (by omega) (by omega))
    · obtain rfl : i = j + 1 := by omega
      exact Nat.le_refl _
theorem Told.cont_at (hΦ : OrcOk P Φ) {S : Nat → Prop} {id : Nat} : ∀ {k : Nat}, k ≤ ops.length → (∀ t, t < k → T.mods t id ∨ T.makes t id → S t) → T.cont S k id = (T.hF k)[id]? := by
  intro k
  induction k with
  | zero => intro _ _; simp only [Told.cont, T.h_0]
  | succ k ih =>
    intro hk hm
    have hi : k < ops.length := by omega
    have ln := T.line k ops[k] (List.getElem?_eq_getElem hi)
    simp only [Told.cont]
    by_cases hc : S k ∧ (T.mods k id ∨ T.makes k id)
    · rw [if_pos hc]
    · rw [if_neg hc, ih (by omega) fun t ht => hm t (by omega)]
      have h1 : ¬ T.mods k id := fun q => hc ⟨hm k (by omega) (.inl q), .inl q⟩
      have h2 : ¬ T.makes k id := fun q => hc ⟨hm k (by omega) (.inr q), .inr q⟩
      rcases Nat.lt_or_ge id (T.hF k).length with q | q
      · exact (ln.mod hΦ q fun e => h1 ⟨e, q⟩).symm
      · have q2 : (T.hF (k + 1)).length ≤ id := Nat.le_of_not_lt fun e => h2 ⟨q, e⟩
        rw [List.getElem?_eq_none q, List.getElem?_eq_none q2]
theorem Told.val_same {S : Nat → Prop} {τ j : Nat} : ∀ {n : Nat}, j ≤ n → (∀ t, j ≤ t → t < n → S t → (ops[t]?).bind (·.dst) ≠ some τ) → T.val S n τ = T.val S j τ := by
  intro n
  induction n with
  | zero => intro h _; obtain rfl : j = 0 := by omega
            rfl
  | succ n ih =>
    intro h hn
    rcases Nat.lt_or_ge j (n + 1) with k | k
    · have e : T.val S (n + 1) τ = T.val S n τ := by
        simp only [Told.val]
        rw [if_neg]
        rintro ⟨hs, hm⟩
        exact hn n (by omega) (by omega) hs hm
      rw [e]
      exact ih (by omega) fun t h1 h2 => hn t h1 (by omega)
    · obtain rfl : j = n + 1 := by omega
      rfl
theorem Told.env_len : ∀ {k : Nat}, k ≤ ops.length → (T.envF k).length = env0.length := by
  intro k
  induction k with
  | zero => intro _; rw [T.env_0]
  | succ k ih =>
    intro hk
    have hi : k < ops.length := by omega
    rw [T.put k ops[k] (List.getElem?_eq_getElem hi)]
    cases h : ops[k].dst with
    | none => simp only [putA]; exact ih (by omega)
    | some d => simp only [putA, List.length_set]; exact ih (by omega)
theorem Told.val_at (hΦ : OrcOk P Φ) {S : Nat → Prop} {τ : Nat} (hτ : τ < env0.length) : ∀ {k : Nat}, k ≤ ops.length → (∀ t, t < k → (ops[t]?).bind (·.dst) = some τ → S t) → ∃ x b, T.val S k τ = some (x, b) ∧ (T.envF k)[τ]? = some x ∧ b ≤ (T.hF k).length := by
  intro k
  induction k with
  | zero => intro _ _; exact ⟨env0[τ], h0.length, by simp [Told.val, hτ], by rw [T.env_0, List.getElem?_eq_getElem hτ], by rw [T.h_0]; exact Nat.le_refl _⟩
  | succ k ih =>
    intro hk hm
    have hi : k < ops.length := by omega
    have hput := T.put k ops[k] (List.getElem?_eq_getElem hi)
    have hlen := T.env_len (k := k) (by omega)
    simp only [Told.val]
    by_cases hd : (ops[k]?).bind (·.dst) = some τ
    · rw [if_pos ⟨hm k (by omega) hd, hd⟩]
      refine ⟨_, _, rfl, ?_, Nat.le_refl _⟩
      have hd' : ops[k].dst = some τ := by simpa [List.getElem?_eq_getElem hi] using hd
      rw [hput, hd']
      simp [putA, hlen, hτ]
    · rw [if_neg fun q => hd q.2]
      obtain ⟨x, b, e1, e2, e3⟩ := ih (by omega) fun t ht => hm t (by omega)
      refine ⟨x, b, e1, ?_, Nat.le_trans e3 (T.mono1 hΦ hi)⟩
      rw [hput]
      cases h : ops[k].dst with
      | none => exact e2
      | some d =>
        have : d ≠ τ := by
          rintro rfl
          exact hd (by simp [List.getElem?_eq_getElem hi, h])
        simp only [putA]
        rw [List.getElem?_set_ne this]
        exact e2

/-- When the operations of S have been carried out. -/
structure Told.J (L0 : LC) (w0 : World) (a0 : Act) (S : Nat → Prop) (L : LC) (a : Act) (w : World) : Prop where
  imm : ∀ b c, L.m b = some c → ∃ cs e fr, w.heap[b]? = some (.cells cs e fr) ∧ cs.toList = c
  big : ∀ id p, L.ρ id = some p → p.b < w.heap.size
  not_m : ∀ id p, L.ρ id = some p → L.m p.b = none
  alive : ∀ id p, L.ρ id = some p → ¬ L.dead id
  inj : ∀ i j p q, L.ρ i = some p → L.ρ j = some q → p.b = q.b → i = j
  dom : ∀ id p, L.ρ id = some p → id < h'.length ∧ ∀ t, t < ops.length → T.makes t id → S t
  blk : ∀ id p, L.ρ id = some p → BlkR (L.cut (T.bnd S ops.length id)) w p (T.cont S ops.length id)
  dead : ∀ id, L.dead id → id < h'.length ∧ (∀ t, t < ops.length → T.makes t id → S t) ∧ T.cont S ops.length id = some .dead
  size : a.tmps.size = env0.length
  env : ∀ τ x k, τ < env0.length → T.val S ops.length τ = some (x, k) → ∃ v, a.tmps[τ]? = some v ∧ RV (L.cut k) x v
  defers : a.defers = a0.defers
  closed : Closed ops S
  le : LE L0 L
  os : w.os = w0.os
  tape : w.tape = w0.tape
  output : w.output = w0.output
  wsize : w0.heap.size ≤ w.heap.size
  keep : ∀ b, b < w0.heap.size → (∀ id p, L0.ρ id = some p → p.b ≠ b) → w.heap[b]? = w0.heap[b]?
  orig : ∀ id p, L.ρ id = some p → L0.ρ id = some p ∨ (h0.length ≤ id ∧ (w0.heap.size ≤ p.b ∨ ∃ i q, L0.ρ i = some q ∧ q.b = p.b))
  newm : ∀ b c, L.m b = some c → L0.m b = some c ∨ w0.heap.size ≤ b ∨ ∃ i q, L0.ρ i = some q ∧ q.b = b
  newdead : ∀ id, L.dead id → L0.dead id ∨ (∃ p, L0.ρ id = some p) ∨ h0.length ≤ id
  kept : Kept lwn L0 w0 L w
  ids0 : ∀ id p, L0.ρ id = some p → id < h0.length

/-- Behind what it hangs on, and ahead of what hangs on it. -/
theorem Told.before {S : Nat → Prop} {j t : Nat} {o x : Oper} (hcl : Closed ops S) (hj : ops[j]? = some o) (ht : ops[t]? = some x) (hpre : ∀ e ∈ o.after, Region.binds .any e = true → S e.on) (hjS : ¬ S j) :
    (t < j → ¬ S t → apartT ops x o = true ∧ indep (T.eF t) (T.eF j) (T.hF t).length (T.hF (t + 1)).length = true) ∧
    (j < t → S t → apartT ops o x = true ∧ indep (T.eF j) (T.eF t) (T.hF j).length (T.hF (j + 1)).length = true) := by
  have mlen : ∀ (l : List Oper) (acc : List Nat), (masks l acc).length = acc.length + l.length := by
    intro l
    induction l with
    | nil => intro acc; rfl
    | cons o l ih => intro acc; simp [masks, ih]; omega
  have hm : ∀ k, k < ops.length → ∃ m, (masks ops [])[k]? = some m := fun k hk => ⟨_, List.getElem?_eq_getElem (by rw [mlen]; simpa using hk)⟩
  have hjl := (List.getElem?_eq_some_iff.1 hj).1
  have htl := (List.getElem?_eq_some_iff.1 ht).1
  constructor
  · intro htj hnS
    obtain ⟨m, hmj⟩ := hm j hjl
    rcases T.pair t j x o m htj ht hj hmj with q | q
    · exfalso
      have hcl' : Closed ops (fun i => S i ∨ i = j) := by
        intro i y hi hy e he hb
        rcases hi with hi | rfl
        · exact .inl (hcl i y hi hy e he hb)
        · rw [hj] at hy; cases hy
          exact .inl (hpre e he hb)
      have := masks_closed hcl' ops [] [] rfl rfl (fun k m hk => by simp at hk) j m hmj (.inr rfl) t q
      rcases this with q | q
      · exact hnS q
      · omega
    · exact q
  · intro hjt hS
    obtain ⟨m, hmt⟩ := hm t htl
    rcases T.pair j t o x m hjt hj ht hmt with q | q
    · exact absurd (masks_closed hcl ops [] [] rfl rfl (fun k m hk => by simp at hk) t m hmt hS j q) hjS
    · exact q

theorem still_fp {x : EffX} (h : x.still = true) (id : Nat) : ¬ x.fp id ∧ ¬ x.mods id := by
  simp only [EffX.still, Bool.and_eq_true, List.isEmpty_iff, Bool.not_eq_true', Option.isNone_iff_eq_none] at h
  obtain ⟨⟨⟨h1, h2⟩, h3⟩, h4⟩ := h
  constructor
  · rintro ((k | k) | k | ⟨n, k, _⟩)
    · rw [h1] at k; cases k
    · rw [h2] at k; cases k
    · rw [h3] at k; cases k
    · rw [h4] at k; cases k
  · rintro (k | ⟨n, k, _⟩)
    · rw [h2] at k; cases k
    · rw [h4] at k; cases k
theorem wallOk_fp {x y : EffX} (h : wallOk x.wall y = true) {n id : Nat} (hn : x.wall = some n) (hid : n ≤ id) : ¬ y.fp id ∧ ¬ y.mods id := by
  rw [hn] at h
  simp only [wallOk, clearOf, Bool.and_eq_true, List.all_eq_true, decide_eq_true_eq, Bool.not_eq_true', Option.isNone_iff_eq_none] at h
  obtain ⟨⟨⟨h1, h2⟩, h3⟩, h4⟩ := h
  constructor
  · rintro ((k | k) | k | ⟨n, k, _⟩)
    · have := h1 id k; omega
    · have := h2 id k; omega
    · rw [h3] at k; cases k
    · rw [h4] at k; cases k
  · rintro (k | ⟨n, k, _⟩)
    · have := h2 id k; omega
    · rw [h4] at k; cases k
theorem indep_l {x y : EffX} {lo hi id : Nat} (h : indep x y lo hi = true) (hm : x.mods id) : ¬ y.fp id ∧ ¬ y.mods id := by
  simp only [indep, Bool.and_eq_true] at h
  obtain ⟨⟨⟨h1, h2⟩, h3⟩, h4⟩ := h
  have yw : (∃ n, y.wall = some n ∧ n ≤ id) → False := fun ⟨n, hn, hid⟩ => (wallOk_fp h2.1 hn hid).2 hm
  rcases hm with hm | ⟨n, hn, hid⟩
  · have := List.all_eq_true.1 h3 id hm
    simp only [Bool.and_eq_true, Bool.not_eq_true'] at this
    obtain ⟨⟨a1, a2⟩, a3⟩ := this
    have n2 : id ∉ y.e.wr := fun k => by rw [List.contains_iff_mem.2 k] at a2; cases a2
    constructor
    · rintro ((k | k) | k | k)
      · rw [List.contains_iff_mem.2 k] at a1; cases a1
      · exact n2 k
      · rw [a3] at k; cases k
      · exact yw k
    · rintro (k | k)
      · exact n2 k
      · exact yw k
  · exact wallOk_fp h1 hn hid
theorem indep_r {x y : EffX} {lo hi id : Nat} (h : indep x y lo hi = true) (hm : y.mods id) : ¬ x.fp id ∧ ¬ x.mods id ∧ ¬ (lo ≤ id ∧ id < hi) := by
  simp only [indep, Bool.and_eq_true] at h
  obtain ⟨⟨⟨h1, h2⟩, h3⟩, h4⟩ := h
  have xw : (∃ n, x.wall = some n ∧ n ≤ id) → False := fun ⟨n, hn, hid⟩ => (wallOk_fp h1 hn hid).2 hm
  rcases hm with hm | ⟨n, hn, hid⟩
  · have := List.all_eq_true.1 h4 id hm
    simp only [Bool.and_eq_true, Bool.not_eq_true', Bool.and_eq_false_iff, decide_eq_false_iff_not] at this
    obtain ⟨⟨⟨a1, a2⟩, a3⟩, a4⟩ := this
    have n2 : id ∉ x.e.wr := fun k => by rw [List.contains_iff_mem.2 k] at a2; cases a2
    refine ⟨?_, ?_, fun q => a4.elim (fun r => r q.1) (fun r => r q.2)⟩
    · rintro ((k | k) | k | k)
      · rw [List.contains_iff_mem.2 k] at a1; cases a1
      · exact n2 k
      · rw [a3] at k; cases k
      · exact xw k
    · rintro (k | k)
      · exact n2 k
      · exact xw k
  · have e : lo = hi := by
      have := h2.2
      rw [hn] at this
      simpa using this
    have := wallOk_fp h2.1 hn hid
    exact ⟨this.1, this.2, by omega⟩
theorem mods_fp {x : EffX} {id : Nat} (h : x.mods id) : x.fp id := by
  rcases h with h | h
  · exact .inl (.inr h)
  · exact .inr (.inr h)

theorem Told.J.cont_before (hΦ : OrcOk P Φ) {L0 : LC} {w0 : World} {a0 : Act} {S : Nat → Prop} {L : LC} {a : Act} {w : World} (J : T.J L0 w0 a0 S L a w) {j : Nat} {o : Oper} (hj : ops[j]? = some o) (hpre : ∀ e ∈ o.after, Region.binds .any e = true → S e.on) (hjS : ¬ S j)
    {id : Nat} (hf : (T.eF j).fp id) (hid : id < (T.hF j).length) (hmk : ∀ t, t < ops.length → T.makes t id → S t) : T.cont S ops.length id = (T.hF j)[id]? ∧ T.bnd S ops.length id ≤ (T.hF j).length := by
  have hjl := (List.getElem?_eq_some_iff.1 hj).1
  have hlate : ∀ t, j ≤ t → t < ops.length → S t → ¬ T.mods t id ∧ ¬ T.makes t id := by
    intro t h1 h2 hS
    have htj : j < t := by
      rcases Nat.lt_or_ge j t with q | q
      · exact q
      · obtain rfl : t = j := by omega
        exact absurd hS hjS
    have := (T.before J.closed hj (List.getElem?_eq_getElem h2) hpre hjS).2 htj hS
    refine ⟨fun hm => (indep_r this.2 hm.1).1 hf, fun hm => ?_⟩
    have := T.mono hΦ (Nat.le_of_lt htj) (by omega)
    have := hm.1
    omega
  rw [T.cont_same (j := j) (Nat.le_of_lt hjl) hlate, T.bnd_same (j := j) (Nat.le_of_lt hjl) hlate]
  · refine ⟨?_, T.bnd_le hΦ (Nat.le_of_lt hjl)⟩
    refine T.cont_at hΦ (Nat.le_of_lt hjl) fun t ht hm => ?_
    rcases hm with hm | hm
    · refine Classical.byContradiction fun hnS => ?_
      have htl : t < ops.length := by omega
      have := (T.before J.closed hj (List.getElem?_eq_getElem htl) hpre hjS).1 ht hnS
      exact (indep_l this.2 hm.1).1 hf
    · exact hmk t (by omega) hm
/-- One operation more, in whatever order. -/
theorem Told.J.next (hΦ : OrcOk P Φ) {L0 : LC} {w0 : World} {a0 : Act} {S : Nat → Prop} {L : LC} {a : Act} {w : World} (J : T.J L0 w0 a0 S L a w) {j : Nat} {o : Oper} (hj : ops[j]? = some o) (hpre : ∀ e ∈ o.after, Region.binds .any e = true → S e.on) (hjS : ¬ S j)
    {L1 : LC} {w1 : World} {r : Value} (st : Stp (T.eF j).mods (L.cut (T.hF j).length) (T.hF j) w L1 (T.hF (j + 1)) w1) (kp : Kept (T.lF (j + 1)) (L.cut (T.hF j).length) w L1 w1) (hr : RV L1 (T.vF j) r) :
    ∃ L', T.J L0 w0 a0 (fun t => S t ∨ t = j) L' (a.put o.dst r) w1 := by
  have hjl := (List.getElem?_eq_some_iff.1 hj).1
  have hAB := T.mono1 hΦ hjl
  have hBN : (T.hF (j + 1)).length ≤ h'.length := by
    have := T.mono hΦ (i := j + 1) (j := ops.length) (by omega) (Nat.le_refl _)
    rwa [T.h_n] at this
  have mk_only : ∀ {t id : Nat}, t < ops.length → T.makes t id → (T.hF j).length ≤ id → id < (T.hF (j + 1)).length → t = j := by
    intro t id ht hm h1 h2
    rcases Nat.lt_trichotomy t j with q | q | q
    · have := T.mono hΦ (i := t + 1) (j := j) (by omega) (by omega)
      have := hm.2
      omega
    · exact q
    · have := T.mono hΦ (i := j + 1) (j := t) (by omega) (by omega)
      have := hm.1
      omega
  let B := (T.hF (j + 1)).length
  let L' : LC := ⟨L1.m, fun id => if id < B then L1.ρ id else L.ρ id, fun id => if id < B then L1.dead id else L.dead id⟩
  have ρlo : ∀ {id}, id < B → L'.ρ id = L1.ρ id := fun h => if_pos h
  have ρhi : ∀ {id}, B ≤ id → L'.ρ id = L.ρ id := fun h => if_neg (by omega)
  have dlo : ∀ {id}, id < B → L'.dead id = L1.dead id := fun h => if_pos h
  have dhi : ∀ {id}, B ≤ id → L'.dead id = L.dead id := fun h => if_neg (by omega)
  have L1ρ : ∀ {id p}, L1.ρ id = some p → id < B := fun e => st.sat.lt _ _ e
  have le1 : LE L1 L' := ⟨fun _ _ e => e, fun id p e => .inl (by rw [ρlo (L1ρ e)]; exact e), fun id d => by rw [dlo (st.sat.dead_lt id d)]; exact d⟩
  have noMid : ∀ {id p}, L.ρ id = some p → (T.hF j).length ≤ id → B ≤ id := by
    intro id p e h
    refine Nat.le_of_not_lt fun q => hjS ?_
    exact (J.dom id p e).2 j hjl ⟨h, q⟩
  have noMidD : ∀ {id}, L.dead id → (T.hF j).length ≤ id → B ≤ id := by
    intro id e h
    refine Nat.le_of_not_lt fun q => hjS ?_
    exact (J.dead id e).2.1 j hjl ⟨h, q⟩
  have leL : LE L L' := ⟨fun b c e => st.le.m b c e, fun id p e => by
      rcases Nat.lt_or_ge id (T.hF j).length with q | q
      · rcases st.le.ρ id p (LC.cut_ρ.2 ⟨q, e⟩) with k | k
        · exact .inl (by rw [ρlo (by omega)]; exact k)
        · exact .inr (by rw [dlo (by omega)]; exact k)
      · exact .inl (by rw [ρhi (noMid e q)]; exact e), fun id d => by
      rcases Nat.lt_or_ge id (T.hF j).length with q | q
      · rw [dlo (by omega)]; exact st.le.dead id ⟨q, d⟩
      · rw [dhi (noMidD d q)]; exact d⟩
  -- what a later operation of S does
  have later : ∀ {t id : Nat}, t < ops.length → j < t → S t → T.mods t id → ¬ (T.eF j).fp id ∧ ¬ (T.eF j).mods id ∧ ¬ T.makes j id := by
    intro t id ht hjt hS hm
    have := (T.before J.closed hj (List.getElem?_eq_getElem ht) hpre hjS).2 hjt hS
    obtain ⟨a1, a2, a3⟩ := indep_r this.2 hm.1
    exact ⟨a1, a2, a3⟩
  -- contents behind the step
  have cont_else : ∀ {id}, ¬ T.mods j id → ¬ T.makes j id → T.cont (fun t => S t ∨ t = j) ops.length id = T.cont S ops.length id := by
    intro id h1 h2
    have : ∀ n, T.cont (fun t => S t ∨ t = j) n id = T.cont S n id := by
      intro n
      induction n with
      | zero => rfl
      | succ n ih =>
        simp only [Told.cont, ih]
        by_cases hn : n = j
        · subst hn
          have q : ¬ (T.mods n id ∨ T.makes n id) := fun q => q.elim h1 h2
          rw [if_neg fun k => q k.2, if_neg fun k => q k.2]
        · by_cases hc : S n ∧ (T.mods n id ∨ T.makes n id)
          · rw [if_pos hc, if_pos ⟨.inl hc.1, hc.2⟩]
          · rw [if_neg hc, if_neg fun k => hc ⟨k.1.resolve_right hn, k.2⟩]
    exact this _
  have cont_here : ∀ {id}, (T.mods j id ∨ T.makes j id) → T.cont (fun t => S t ∨ t = j) ops.length id = (T.hF (j + 1))[id]? := by
    intro id hm
    rw [T.cont_same (j := j + 1) (by omega)]
    · simp only [Told.cont]
      rw [if_pos ⟨.inr rfl, hm⟩]
    · intro t h1 h2 hS
      have hS' : S t := hS.resolve_right (by omega)
      refine ⟨fun q => ?_, fun q => ?_⟩
      · obtain ⟨a1, a2, a3⟩ := later h2 (by omega) hS' q
        rcases hm with hm | hm
        · exact a2 hm.1
        · exact a3 hm
      · have h3 := T.mono hΦ (i := j + 1) (j := t) (by omega) (by omega)
        have h4 := q.1
        rcases hm with hm | hm
        · have := hm.2; omega
        · have := hm.2; omega
  have bnd_else : ∀ {id}, ¬ T.mods j id → ¬ T.makes j id → T.bnd (fun t => S t ∨ t = j) ops.length id = T.bnd S ops.length id := by
    intro id h1 h2
    have : ∀ n, T.bnd (fun t => S t ∨ t = j) n id = T.bnd S n id := by
      intro n
      induction n with
      | zero => rfl
      | succ n ih =>
        simp only [Told.bnd, ih]
        by_cases hn : n = j
        · subst hn
          have q : ¬ (T.mods n id ∨ T.makes n id) := fun q => q.elim h1 h2
          rw [if_neg fun k => q k.2, if_neg fun k => q k.2]
        · by_cases hc : S n ∧ (T.mods n id ∨ T.makes n id)
          · rw [if_pos hc, if_pos ⟨.inl hc.1, hc.2⟩]
          · rw [if_neg hc, if_neg fun k => hc ⟨k.1.resolve_right hn, k.2⟩]
    exact this _
  have late : ∀ {id}, (T.mods j id ∨ T.makes j id) → ∀ t, j + 1 ≤ t → t < ops.length → (S t ∨ t = j) → ¬ T.mods t id ∧ ¬ T.makes t id := by
    intro id hm t h1 h2 hS
    have hS' : S t := hS.resolve_right (by omega)
    refine ⟨fun q => ?_, fun q => ?_⟩
    · obtain ⟨a1, a2, a3⟩ := later h2 (by omega) hS' q
      rcases hm with hm | hm
      · exact a2 hm.1
      · exact a3 hm
    · have h3 := T.mono hΦ (i := j + 1) (j := t) (by omega) (by omega)
      have h4 := q.1
      rcases hm with hm | hm
      · have := hm.2; omega
      · have := hm.2; omega
  have bnd_here : ∀ {id}, (T.mods j id ∨ T.makes j id) → T.bnd (fun t => S t ∨ t = j) ops.length id = B := by
    intro id hm
    rw [T.bnd_same (j := j + 1) (by omega) (late hm)]
    simp only [Told.bnd]
    rw [if_pos ⟨.inr rfl, hm⟩]
  -- contents of what was touched
  have cont_fp : ∀ {id}, ((T.eF j).mods id ∨ (T.hF j).length ≤ id) → id < B → T.mods j id ∨ T.makes j id := by
    intro id hf hB
    rcases Nat.lt_or_ge id (T.hF j).length with q | q
    · exact .inl ⟨hf.resolve_right (by omega), q⟩
    · exact .inr ⟨q, hB⟩
  -- where an unknown block comes from
  have oldρ : ∀ {id p}, L1.ρ id = some p → (id < (T.hF j).length ∧ L.ρ id = some p) ∨ ((T.hF j).length ≤ id ∧ (w.heap.size ≤ p.b ∨ ∃ i q, (T.eF j).mods i ∧ i < (T.hF j).length ∧ L.ρ i = some q ∧ q.b = p.b)) := by
    intro id p e
    rcases st.newρ id p e with e | ⟨h1, k | ⟨i, q, h2, e, h3⟩⟩
    · exact .inl (LC.cut_ρ.1 e)
    · exact .inr ⟨h1, .inl k⟩
    · have := LC.cut_ρ.1 e
      exact .inr ⟨h1, .inr ⟨i, q, h2, this.1, this.2, h3⟩⟩
  refine ⟨L', ?_⟩
  refine ⟨st.sat.imm, fun id p e => ?_, fun id p e => ?_, fun id p e => ?_, fun i1 i2 p q e1 e2 hb => ?_, fun id p e => ?_, fun id p e => ?_, fun id d => ?_, ?_, fun τ x k hτ hv => ?_, ?_, ?_, J.le.trans leL, by rw [st.fr.os, J.os], by rw [st.fr.tape, J.tape], by rw [st.fr.output, J.output], Nat.le_trans J.wsize st.fr.size, fun b hb hn => ?_, fun id p e => ?_, fun b c e => ?_, fun id d => ?_, ⟨fun id p hid e => ?_⟩, J.ids0⟩
  · -- big
    rcases Nat.lt_or_ge id B with q | q
    · exact st.sat.big id p (by rw [← ρlo q]; exact e)
    · exact Nat.lt_of_lt_of_le (J.big id p (by rw [← ρhi q]; exact e)) st.fr.size
  · -- not_m
    rcases Nat.lt_or_ge id B with q | q
    · exact st.sat.not_m id p (by rw [← ρlo q]; exact e)
    · rw [ρhi q] at e
      cases hm : L1.m p.b with
      | none => rfl
      | some c =>
        exfalso
        rcases st.newm p.b c hm with k | k | ⟨i, r, _, k, hb⟩
        · have := J.not_m id p e
          have k' : L.m p.b = some c := k
          rw [k'] at this; cases this
        · have := J.big id p e; omega
        · have k' := LC.cut_ρ.1 k
          have := J.inj i id r p k'.2 e hb
          omega
  · -- alive
    rcases Nat.lt_or_ge id B with q | q
    · rw [dlo q]; exact st.sat.alive id p (by rw [← ρlo q]; exact e)
    · rw [dhi q]; exact J.alive id p (by rw [← ρhi q]; exact e)
  · -- inj
    have half : ∀ {i1 i2 p q}, L1.ρ i1 = some p → L.ρ i2 = some q → B ≤ i2 → p.b = q.b → False := by
      intro i1 i2 p q e1 e2 hB hb
      rcases oldρ e1 with ⟨h1, e⟩ | ⟨h1, k | ⟨i, r, _, h2, e, hr⟩⟩
      · have := J.inj _ _ _ _ e e2 hb; omega
      · have := J.big _ _ e2; omega
      · have := J.inj _ _ _ _ e e2 (hr.trans hb); omega
    rcases Nat.lt_or_ge i1 B with q1 | q1 <;> rcases Nat.lt_or_ge i2 B with q2 | q2
    · rw [ρlo q1] at e1; rw [ρlo q2] at e2; exact st.sat.inj _ _ _ _ e1 e2 hb
    · rw [ρlo q1] at e1; rw [ρhi q2] at e2; exact (half e1 e2 q2 hb).elim
    · rw [ρhi q1] at e1; rw [ρlo q2] at e2; exact (half e2 e1 q1 hb.symm).elim
    · rw [ρhi q1] at e1; rw [ρhi q2] at e2; exact J.inj _ _ _ _ e1 e2 hb
  · -- dom
    rcases Nat.lt_or_ge id B with q | q
    · rw [ρlo q] at e
      refine ⟨by omega, fun t ht hm => ?_⟩
      rcases oldρ e with ⟨h1, e⟩ | ⟨h1, _⟩
      · exact .inl ((J.dom id p e).2 t ht hm)
      · exact .inr (mk_only ht hm h1 q)
    · rw [ρhi q] at e
      exact ⟨(J.dom id p e).1, fun t ht hm => .inl ((J.dom id p e).2 t ht hm)⟩
  · -- blk
    have leB : LE L1 (L'.cut B) := ⟨fun _ _ e => e, fun id p e => .inl (LC.cut_ρ.2 ⟨L1ρ e, by rw [ρlo (L1ρ e)]; exact e⟩), fun id dd => ⟨st.sat.dead_lt id dd, by rw [dlo (st.sat.dead_lt id dd)]; exact dd⟩⟩
    have leC : ∀ n, LE (L.cut n) (L'.cut n) := fun n => LC.cut_le leL.m (fun id p _ e => leL.ρ id p e) (fun id _ e => leL.dead id e) (Nat.le_refl _)
    rcases Nat.lt_or_ge id B with q | q
    · rw [ρlo q] at e
      by_cases hf : (T.eF j).mods id ∨ (T.hF j).length ≤ id
      · have hm := cont_fp hf q
        rw [cont_here hm, bnd_here hm]
        exact BlkR.mono leB rfl (st.sat.blk id p hf e)
      · have hid : id < (T.hF j).length := Nat.lt_of_not_le fun k => hf (.inr k)
        have hnf : ¬ (T.eF j).mods id := fun k => hf (.inl k)
        have e0 : L.ρ id = some p := by
          rcases oldρ e with ⟨_, e⟩ | ⟨h1, _⟩
          · exact e
          · omega
        have n1 : ¬ T.mods j id := fun k => hnf k.1
        have n2 : ¬ T.makes j id := fun k => by have := k.1; omega
        rw [cont_else n1 n2, bnd_else n1 n2]
        refine BlkR.mono (leC _) (st.fr.keep p.b (J.big id p e0) fun i r fi ei hb => ?_) (J.blk id p e0)
        have := J.inj _ _ _ _ (LC.cut_ρ.1 ei).2 e0 hb
        exact hnf (this ▸ fi)
    · rw [ρhi q] at e
      have n1 : ¬ T.mods j id := fun k => by have := k.2; omega
      have n2 : ¬ T.makes j id := fun k => by have := k.2; omega
      rw [cont_else n1 n2, bnd_else n1 n2]
      refine BlkR.mono (leC _) (st.fr.keep p.b (J.big id p e) fun i r fi ei hb => ?_) (J.blk id p e)
      have k := LC.cut_ρ.1 ei
      have := J.inj _ _ _ _ k.2 e hb
      omega
  · -- dead
    rcases Nat.lt_or_ge id B with q | q
    · rw [dlo q] at d
      have hmk : ∀ t, t < ops.length → T.makes t id → S t ∨ t = j := fun t ht hm => by
        rcases st.newdead id d with k | ⟨_, p, k⟩ | k
        · exact .inl ((J.dead id k.2).2.1 t ht hm)
        · exact .inl ((J.dom id p (LC.cut_ρ.1 k).2).2 t ht hm)
        · exact .inr (mk_only ht hm k q)
      refine ⟨by omega, hmk, ?_⟩
      by_cases hf : (T.eF j).mods id ∨ (T.hF j).length ≤ id
      · rw [cont_here (cont_fp hf q)]
        exact st.sat.dead id d hf
      · have hid : id < (T.hF j).length := Nat.lt_of_not_le fun k => hf (.inr k)
        have hnf : ¬ (T.eF j).mods id := fun k => hf (.inl k)
        rcases st.newdead id d with k | ⟨k, _⟩ | k
        · rw [cont_else (fun k => hnf k.1) fun k => by have := k.1; omega]
          exact (J.dead id k.2).2.2
        · exact absurd k hnf
        · omega
    · rw [dhi q] at d
      obtain ⟨d1, d2, d3⟩ := J.dead id d
      refine ⟨d1, fun t ht hm => .inl (d2 t ht hm), ?_⟩
      rw [cont_else (fun k => by have := k.2; omega) fun k => by have := k.2; omega]
      exact d3
  · -- size
    cases h : o.dst with
    | none => exact J.size
    | some dd => simp only [Act.put, Array.size_setIfInBounds]; exact J.size
  · -- env
    have valS : T.val (fun t => S t ∨ t = j) ops.length τ = if (ops[j]?).bind (·.dst) = some τ then some (T.vF j, (T.hF (j + 1)).length) else T.val S ops.length τ := by
      by_cases hd : (ops[j]?).bind (·.dst) = some τ
      · rw [if_pos hd, T.val_same (j := j + 1) (by omega)]
        · simp only [Told.val]
          rw [if_pos ⟨.inr rfl, hd⟩]
        · intro t h1 h2 hS hdt
          have hS' : S t := hS.resolve_right (by omega)
          have := ((T.before J.closed hj (List.getElem?_eq_getElem h2) hpre hjS).2 (by omega) hS').1
          rw [hj] at hd
          simp only [Option.bind_some] at hd
          rw [List.getElem?_eq_getElem h2] at hdt
          simp only [Option.bind_some] at hdt
          simp only [apartT, hd, hdt, Bool.and_eq_true] at this
          simp at this
      · rw [if_neg hd]
        have : ∀ n, T.val (fun t => S t ∨ t = j) n τ = T.val S n τ := by
          intro n
          induction n with
          | zero => rfl
          | succ n ih =>
            simp only [Told.val, ih]
            by_cases hn : n = j
            · subst hn
              rw [if_neg fun k => hd k.2, if_neg fun k => hd k.2]
            · by_cases hc : S n ∧ (ops[n]?).bind (·.dst) = some τ
              · rw [if_pos hc, if_pos ⟨.inl hc.1, hc.2⟩]
              · rw [if_neg hc, if_neg fun k => hc ⟨k.1.resolve_right hn, k.2⟩]
        exact this _
    rw [valS] at hv
    have hdj : (ops[j]?).bind (·.dst) = o.dst := by rw [hj]; rfl
    rw [hdj] at hv
    by_cases hd : o.dst = some τ
    · rw [if_pos hd] at hv
      cases hv
      refine ⟨r, ?_, RV.mono ?_ _ _ hr⟩
      · rw [hd]
        simp [Act.put, J.size, hτ]
      · exact ⟨fun _ _ e => e, fun id p e => .inl (LC.cut_ρ.2 ⟨L1ρ e, by rw [ρlo (L1ρ e)]; exact e⟩), fun id dd => ⟨st.sat.dead_lt id dd, by rw [dlo (st.sat.dead_lt id dd)]; exact dd⟩⟩
    · rw [if_neg hd] at hv
      obtain ⟨v, h1, h2⟩ := J.env τ x k hτ hv
      refine ⟨v, ?_, RV.mono (LC.cut_le leL.m (fun id p _ e => leL.ρ id p e) (fun id _ e => leL.dead id e) (Nat.le_refl _)) _ _ h2⟩
      cases hdst : o.dst with
      | none => exact h1
      | some dd =>
        have : dd ≠ τ := fun e => hd (e ▸ hdst)
        simp only [Act.put, Array.getElem?_setIfInBounds, this, if_false]
        exact h1
  · rw [put_defers]; exact J.defers
  · -- closed
    intro t y ht hy e he hb
    rcases ht with ht | rfl
    · exact .inl (J.closed t y ht hy e he hb)
    · rw [hj] at hy; cases hy
      exact .inl (hpre e he hb)
  · -- keep
    rw [st.fr.keep b (Nat.lt_of_lt_of_le hb J.wsize) fun id p _ e k => ?_, J.keep b hb hn]
    have e' := (LC.cut_ρ.1 e).2
    rcases J.orig id p e' with q | ⟨_, q | ⟨i, r, q, hr⟩⟩
    · exact hn id p q k
    · omega
    · exact hn i r q (hr.trans k)
  · -- orig
    rcases Nat.lt_or_ge id B with q | q
    · rw [ρlo q] at e
      have h0A : h0.length ≤ (T.hF j).length := by
        have := T.mono hΦ (i := 0) (j := j) (Nat.zero_le _) (by omega)
        rwa [T.h_0] at this
      rcases oldρ e with ⟨h1, e⟩ | ⟨h1, k | ⟨i, r, _, h2, e, hr⟩⟩
      · exact J.orig id p e
      · exact .inr ⟨by omega, .inl (Nat.le_trans J.wsize k)⟩
      · refine .inr ⟨by omega, ?_⟩
        rcases J.orig i r e with k | ⟨_, k | ⟨i2, r2, k, hr2⟩⟩
        · exact .inr ⟨i, r, k, hr⟩
        · exact .inl (hr ▸ k)
        · exact .inr ⟨i2, r2, k, hr2.trans hr⟩
    · rw [ρhi q] at e
      exact J.orig id p e
  · -- newm
    rcases st.newm b c e with k | k | ⟨i, r, _, k, hr⟩
    · exact J.newm b c k
    · exact .inr (.inl (Nat.le_trans J.wsize k))
    · rcases J.orig i r (LC.cut_ρ.1 k).2 with k | ⟨_, k | ⟨i2, r2, k, hr2⟩⟩
      · exact .inr (.inr ⟨i, r, k, hr⟩)
      · exact .inr (.inl (hr ▸ k))
      · exact .inr (.inr ⟨i2, r2, k, hr2.trans hr⟩)
  · -- newdead
    have h0A : h0.length ≤ (T.hF j).length := by
      have := T.mono hΦ (i := 0) (j := j) (Nat.zero_le _) (by omega)
      rwa [T.h_0] at this
    rcases Nat.lt_or_ge id B with q | q
    · rw [dlo q] at d
      rcases st.newdead id d with k | ⟨_, p, k⟩ | k
      · exact J.newdead id k.2
      · rcases J.orig id p (LC.cut_ρ.1 k).2 with k | ⟨k, _⟩
        · exact .inr (.inl ⟨p, k⟩)
        · exact .inr (.inr k)
      · exact .inr (.inr (Nat.le_trans h0A k))
    · rw [dhi q] at d
      exact J.newdead id d
  · -- kept
    obtain ⟨e1, e2⟩ := J.kept.keep id p hid e
    have h0A : h0.length ≤ (T.hF j).length := by
      have := T.mono hΦ (i := 0) (j := j) (Nat.zero_le _) (by omega)
      rwa [T.h_0] at this
    have hidA : id < (T.hF j).length := Nat.lt_of_lt_of_le (J.ids0 id p e) h0A
    have hl : lwn ≤ T.lF (j + 1) := Nat.le_trans (Nat.le_of_eq T.l_n.symm) (T.low hΦ (by omega) (Nat.le_refl _))
    obtain ⟨e3, e4⟩ := kp.keep id p (by omega) (LC.cut_ρ.2 ⟨hidA, e1⟩)
    exact ⟨by rw [ρlo (by omega)]; exact e3, e4.trans e2⟩
end draw
end Go.Proofs.YtgcdpdkccaabcaaGreat.Ev
