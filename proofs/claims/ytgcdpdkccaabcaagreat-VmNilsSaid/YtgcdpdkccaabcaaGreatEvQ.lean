/- The abstract state made plain again: blocks that nothing needs any more go, blocks that nothing writes any more become plain data. Conditions: none (definitions and lemmas). -/
import Derived.Test.YtgcdpdkccaabcaaGreatEvO
namespace Go.Proofs.YtgcdpdkccaabcaaGreat.Ev
open Go
set_option linter.unusedVariables false
set_option linter.unusedSimpArgs false
set_option linter.unusedSectionVars false

mutual
/-- A value, told in a plainer state: of the blocks from n on, those of σ have new numbers, and of the others the content is told. -/
inductive Frz (h : Heap) (n : Nat) (σ : List Nat) : AV → AV → Prop
  | any (x : AV) : Frz h n σ x .any
  | bool (b : Bool) : Frz h n σ (.bool b) (.bool b)
  | int (k : IntKind) (i : Int) : Frz h n σ (.int k i) (.int k i)
  | str (s : ByteArray) : Frz h n σ (.str s) (.str s)
  | nilp : Frz h n σ .nilp .nilp
  | nils : Frz h n σ .nils .nils
  | nilm : Frz h n σ .nilm .nilm
  | nilf : Frz h n σ .nilf .nilf
  | nili : Frz h n σ .nili .nili
  | ptrOld {id off : Nat} (hid : id < n) : Frz h n σ (.ptr id off) (.ptr id off)
  | ptrKeep {id off j : Nat} (hj : σ[j]? = some id) : Frz h n σ (.ptr id off) (.ptr (n + j) off)
  | ptrFrz {id off k : Nat} {cs ys : List AV} {e : TypeId} (hid : n ≤ id) (hσ : id ∉ σ) (hb : h[id]? = some (.cells cs e)) (hs : Frzs h n σ ((cs.drop off).take k) ys) : Frz h n σ (.ptr id off) (.vp ys)
  | slOld {id off len lo lo' es : Nat} {ex ex' : Bool} (hid : id < n) (h1 : lo' ≤ lo) (h2 : len ≤ lo') (h3 : ex' = true → ex = true ∧ lo' = lo) : Frz h n σ (.sl id off len lo ex es) (.sl id off len lo' ex' es)
  | slKeep {id off len lo lo' es j : Nat} {ex ex' : Bool} (hj : σ[j]? = some id) (h1 : lo' ≤ lo) (h2 : len ≤ lo') (h3 : ex' = true → ex = true ∧ lo' = lo) : Frz h n σ (.sl id off len lo ex es) (.sl (n + j) off len lo' ex' es)
  | slFrz {id off len lo es k : Nat} {ex : Bool} {cap : Option Nat} {cs ys : List AV} {e : TypeId} (hid : n ≤ id) (hσ : id ∉ σ) (hb : h[id]? = some (.cells cs e)) (hs : Frzs h n σ ((cs.drop off).take k) ys)
      (hc : ∀ c, cap = some c → ex = true ∧ c = lo) : Frz h n σ (.sl id off len lo ex es) (.vsl ys len cap)
  | mpOld {id : Nat} (hid : id < n) : Frz h n σ (.mp id) (.mp id)
  | mpKeep {id j : Nat} (hj : σ[j]? = some id) : Frz h n σ (.mp id) (.mp (n + j))
  | vp {xs ys : List AV} (k : Nat) (hs : Frzs h n σ (xs.take k) ys) : Frz h n σ (.vp xs) (.vp ys)
  | vsl {xs ys : List AV} {len : Nat} {cap cap' : Option Nat} (k : Nat) (hs : Frzs h n σ (xs.take k) ys) (hc : ∀ c, cap' = some c → cap = some c) : Frz h n σ (.vsl xs len cap) (.vsl ys len cap')
  | fn {f : FuncId} {a a' b b' : List AV} (ha : Frzs h n σ a a') (hb : Frzs h n σ b b') : Frz h n σ (.fn f a b) (.fn f a' b')
  | iface {t : TypeId} {x y : AV} (hx : Frz h n σ x y) : Frz h n σ (.iface t x) (.iface t y)
  | agg {xs ys : List AV} (hs : Frzs h n σ xs ys) : Frz h n σ (.agg xs) (.agg ys)
  | tup {xs ys : List AV} (hs : Frzs h n σ xs ys) : Frz h n σ (.tup xs) (.tup ys)
inductive Frzs (h : Heap) (n : Nat) (σ : List Nat) : List AV → List AV → Prop
  | nil : Frzs h n σ [] []
  | cons {x y : AV} {xs ys : List AV} (hx : Frz h n σ x y) (hs : Frzs h n σ xs ys) : Frzs h n σ (x :: xs) (y :: ys)
end

theorem Frzs.length {h : Heap} {n : Nat} {σ : List Nat} : ∀ {xs ys : List AV}, Frzs h n σ xs ys → xs.length = ys.length
  | _, _, .nil => rfl
  | _, _, .cons _ hs => by simp [Frzs.length hs]

inductive FrzB (h : Heap) (n : Nat) (σ : List Nat) : Blk → Blk → Prop
  | dead : FrzB h n σ .dead .dead
  | cells {cs ys : List AV} {e : TypeId} (k : Nat) (hs : Frzs h n σ (cs.take k) ys) : FrzB h n σ (.cells cs e) (.cells ys e)
  | mp {es es' : List (AV × AV)} (hk : Frzs h n σ (es.map (·.1)) (es'.map (·.1))) (hv : Frzs h n σ (es.map (·.2)) (es'.map (·.2))) : FrzB h n σ (.mp es) (.mp es')

/-- A heap, made plain from n on. -/
structure Gc (n lw : Nat) (σ : List Nat) (h h' : Heap) : Prop where
  len : h'.length = n + σ.length
  nodup : σ.Nodup
  le : n ≤ h.length
  old : ∀ i, i < n → i < lw → h'[i]? = h[i]?
  mid : ∀ i, i < n → lw ≤ i → ∃ x y, h[i]? = some x ∧ h'[i]? = some y ∧ FrzB h n σ x y
  kept : ∀ j id, σ[j]? = some id → n ≤ id ∧ ((∃ x y, h[id]? = some x ∧ h'[n + j]? = some y ∧ FrzB h n σ x y) ∨ (h.length ≤ id ∧ h'[n + j]? = some .dead))

noncomputable def LC.gc (L : LC) (w : World) (n : Nat) (σ : List Nat) : LC where
  m b := match L.m b with
    | some c => some c
    | none => open Classical in if ∃ id p, n ≤ id ∧ id ∉ σ ∧ L.ρ id = some p ∧ p.b = b then (match w.heap[b]? with | some (.cells c _ _) => some c.toList | _ => none) else none
  ρ i := if i < n then L.ρ i else (σ[i - n]?).bind L.ρ
  dead i := if i < n then L.dead i else ∃ id, σ[i - n]? = some id ∧ L.dead id

section
variable {L : LC} {h : Heap} {w : World} {n : Nat} {σ : List Nat}
theorem LC.gc_m {b : Nat} {c : List Value} (e : L.m b = some c) : (L.gc w n σ).m b = some c := by simp only [LC.gc, e]
theorem LC.gc_frz {b : Nat} {id : Nat} {p : Pl} (hn : n ≤ id) (hσ : id ∉ σ) (hp : L.ρ id = some p) (hm : L.m p.b = none) {c : Array Value} {e : TypeId} {fr : Nat × Nat} (hw : w.heap[p.b]? = some (.cells c e fr)) : (L.gc w n σ).m p.b = some c.toList := by
  simp only [LC.gc, hm, hw]
  rw [if_pos ⟨id, p, hn, hσ, hp, rfl⟩]
theorem LC.gc_m_inv {b : Nat} {c : List Value} (e : (L.gc w n σ).m b = some c) : L.m b = some c ∨ (L.m b = none ∧ (∃ id p, n ≤ id ∧ id ∉ σ ∧ L.ρ id = some p ∧ p.b = b) ∧ ∃ cs t fr, w.heap[b]? = some (.cells cs t fr) ∧ cs.toList = c) := by
  simp only [LC.gc] at e
  split at e
  · rename_i hm; exact .inl (hm.trans e)
  · rename_i hm
    split at e
    · rename_i hx
      refine .inr ⟨hm, hx, ?_⟩
      split at e
      · rename_i hw; exact ⟨_, _, _, hw, Option.some.inj e⟩
      · cases e
    · cases e
theorem LC.gc_old {id : Nat} (hid : id < n) : (L.gc w n σ).ρ id = L.ρ id := by simp only [LC.gc, if_pos hid]
theorem LC.gc_keep {j id : Nat} (hj : σ[j]? = some id) : (L.gc w n σ).ρ (n + j) = L.ρ id := by
  have h1 : ¬ n + j < n := by omega
  simp only [LC.gc, if_neg h1, Nat.add_sub_cancel_left, hj, Option.bind_some]
theorem LC.gc_place_old {id : Nat} (hid : id < n) {p : Pl} (e : L.dead id ∨ L.ρ id = some p) : (L.gc w n σ).dead id ∨ (L.gc w n σ).ρ id = some p := by
  simpa only [LC.gc, if_pos hid] using e
theorem LC.gc_place_keep {j id : Nat} (hj : σ[j]? = some id) {p : Pl} (e : L.dead id ∨ L.ρ id = some p) : (L.gc w n σ).dead (n + j) ∨ (L.gc w n σ).ρ (n + j) = some p := by
  rw [LC.gc_keep hj]
  refine e.imp (fun d => ?_) (fun x => x)
  have h1 : ¬ n + j < n := by omega
  simp only [LC.gc, if_neg h1, Nat.add_sub_cancel_left]
  exact ⟨id, hj, d⟩
theorem LC.gc_ρ_inv {i : Nat} {p : Pl} (e : (L.gc w n σ).ρ i = some p) : (i < n ∧ L.ρ i = some p) ∨ ∃ j id, i = n + j ∧ σ[j]? = some id ∧ L.ρ id = some p := by
  simp only [LC.gc] at e
  split at e
  · rename_i hi; exact .inl ⟨hi, e⟩
  · rename_i hi
    cases hs : σ[i - n]? with
    | none => simp [hs] at e
    | some id =>
      simp only [hs, Option.bind_some] at e
      exact .inr ⟨i - n, id, by omega, hs, e⟩

theorem SatOn.place_live {fp : Nat → Prop} (s : SatH L h w) {id : Nat} {p : Pl} (e : L.dead id ∨ L.ρ id = some p) {x : Blk} (hx : h[id]? = some x) (hd : x ≠ .dead) : L.ρ id = some p := by
  rcases e with e | e
  · have := s.dead id e trivial
    rw [hx] at this
    exact absurd (Option.some.inj this) hd
  · exact e

theorem drop_take_sub {cs : List AV} {c : List Value} (hr : RVs L cs (c.take cs.length)) (off k : Nat) : RVs L ((cs.drop off).take k) ((c.drop off).take ((cs.drop off).take k).length) := by
  have h1 := (hr.drop off).take k
  have : ((c.take cs.length).drop off).take k = (c.drop off).take ((cs.drop off).take k).length := by
    rw [List.drop_take, List.take_take]
    simp only [List.length_take, List.length_drop]
  rwa [this] at h1

mutual
theorem Frz.rel (s : SatH L h w) (hn : n ≤ h.length) : ∀ {x y : AV}, Frz h n σ x y → ∀ {v : Value}, RV L x v → RV (L.gc w n σ) y v
  | _, _, .any _, v, _ => by simp [RV]
  | _, _, .bool _, v, e => by simpa [RV] using e
  | _, _, .int _ _, v, e => by simpa [RV] using e
  | _, _, .str _, v, e => by simpa [RV] using e
  | _, _, .nilp, v, e => by simpa [RV] using e
  | _, _, .nils, v, e => by simpa [RV] using e
  | _, _, .nilm, v, e => by simpa [RV] using e
  | _, _, .nilf, v, e => by simpa [RV] using e
  | _, _, .nili, v, e => by simpa [RV] using e
  | _, _, .ptrOld (id := id) hid, v, e => by
    simp only [RV] at e ⊢
    obtain ⟨p, e, ev⟩ := e
    exact ⟨p, LC.gc_place_old hid e, ev⟩
  | _, _, .ptrKeep hj, v, e => by
    simp only [RV] at e ⊢
    obtain ⟨p, e, ev⟩ := e
    exact ⟨p, LC.gc_place_keep hj e, ev⟩
  | _, _, .ptrFrz (id := id) (cs := cs) (off := off) hid hσ hb hs, v, e => by
    simp only [RV] at e ⊢
    obtain ⟨p, e, ev⟩ := e
    have hp := SatOn.place_live (fp := fun _ => True) s e hb (by simp)
    have hk := s.blk id p trivial hp
    rw [hb] at hk
    obtain ⟨c, hw, _, _, hr⟩ := hk
    refine ⟨p.b, p.o + off, c.toList, LC.gc_frz (b := p.b) hid hσ hp (s.not_m id p hp) hw, ev, ?_⟩
    have := Frzs.rel s hn hs (drop_take_sub hr off _)
    rw [hs.length, List.drop_drop] at this
    exact this
  | _, _, .slOld (id := id) hid h1 h2 h3, v, e => by
    simp only [RV] at e ⊢
    obtain ⟨p, c, e, ev, e1, e2, e3, e4⟩ := e
    exact ⟨p, c, LC.gc_place_old hid e, ev, by omega, h2, fun hx => (e3 (h3 hx).1).trans (h3 hx).2.symm, e4⟩
  | _, _, .slKeep hj h1 h2 h3, v, e => by
    simp only [RV] at e ⊢
    obtain ⟨p, c, e, ev, e1, e2, e3, e4⟩ := e
    exact ⟨p, c, LC.gc_place_keep hj e, ev, by omega, h2, fun hx => (e3 (h3 hx).1).trans (h3 hx).2.symm, e4⟩
  | _, _, .slFrz (id := id) (cs := cs) (off := off) (len := len) hid hσ hb hs hc, v, e => by
    simp only [RV] at e ⊢
    obtain ⟨p, c0, e, ev, e1, e2, e3, e4⟩ := e
    have hp := SatOn.place_live (fp := fun _ => True) s e hb (by simp)
    have hk := s.blk id p trivial hp
    rw [hb] at hk
    obtain ⟨c, hw, _, _, hr⟩ := hk
    refine ⟨_, c0, ev, by omega, fun k hk => ?_, .inr ⟨c.toList, LC.gc_frz (b := p.b) hid hσ hp (s.not_m id p hp) hw, rfl, ?_⟩⟩
    · obtain ⟨hx, rfl⟩ := hc k hk
      exact e3 hx
    · have := Frzs.rel s hn hs (drop_take_sub hr off _)
      rw [hs.length, List.drop_drop] at this
      exact this
  | _, _, .mpOld hid, v, e => by
    simp only [RV] at e ⊢
    obtain ⟨p, e, ev⟩ := e
    exact ⟨p, LC.gc_place_old hid e, ev⟩
  | _, _, .mpKeep hj, v, e => by
    simp only [RV] at e ⊢
    obtain ⟨p, e, ev⟩ := e
    exact ⟨p, LC.gc_place_keep hj e, ev⟩
  | _, _, .vp (xs := xs) k hs, v, e => by
    simp only [RV] at e ⊢
    obtain ⟨b, o, c, hm, ev, hr⟩ := e
    refine ⟨b, o, c, LC.gc_m hm, ev, ?_⟩
    have hr0 : RVs L (xs.take k) ((c.drop o).take (xs.take k).length) := drop_take_sub (c := c.drop o) hr 0 k
    have := Frzs.rel s hn hs hr0
    rw [hs.length] at this
    exact this
  | _, _, .vsl (xs := xs) k hs hc, v, e => by
    simp only [RV] at e ⊢
    obtain ⟨a, c, ev, h1, h2, hx⟩ := e
    refine ⟨a, c, ev, h1, fun k hk => h2 k (hc k hk), ?_⟩
    rcases hx with ⟨rfl, rfl⟩ | ⟨cs, hm, hsp, hr⟩
    · rw [List.take_nil] at hs
      cases hs
      exact .inl ⟨rfl, rfl⟩
    · refine .inr ⟨cs, LC.gc_m hm, hsp, ?_⟩
      have hr0 : RVs L (xs.take k) ((cs.drop a.off).take (xs.take k).length) := drop_take_sub (c := cs.drop a.off) hr 0 k
      have := Frzs.rel s hn hs hr0
      rw [hs.length] at this
      exact this
  | _, _, .fn ha hb, v, e => by
    simp only [RV] at e ⊢
    obtain ⟨v1, v2, ev, h1, h2⟩ := e
    exact ⟨v1, v2, ev, Frzs.rel s hn ha h1, Frzs.rel s hn hb h2⟩
  | _, _, .iface hx, v, e => by
    simp only [RV] at e ⊢
    obtain ⟨y, ev, hy⟩ := e
    exact ⟨y, ev, Frz.rel s hn hx hy⟩
  | _, _, .agg hs, v, e => by
    simp only [RV] at e ⊢
    obtain ⟨vs, ev, hy⟩ := e
    exact ⟨vs, ev, Frzs.rel s hn hs hy⟩
  | _, _, .tup hs, v, e => by
    simp only [RV] at e ⊢
    obtain ⟨vs, ev, hy⟩ := e
    exact ⟨vs, ev, Frzs.rel s hn hs hy⟩
theorem Frzs.rel (s : SatH L h w) (hn : n ≤ h.length) : ∀ {xs ys : List AV}, Frzs h n σ xs ys → ∀ {vs : List Value}, RVs L xs vs → RVs (L.gc w n σ) ys vs
  | _, _, .nil, vs, e => by cases vs with
    | nil => exact .nil
    | cons _ _ => simp [RVs] at e
  | _, _, .cons hx hs, vs, e => by cases vs with
    | nil => simp [RVs] at e
    | cons v vs =>
      simp only [RVs] at e ⊢
      exact ⟨Frz.rel s hn hx e.1, Frzs.rel s hn hs e.2⟩
end

theorem BlkR.gc (s : SatH L h w) (hn : n ≤ h.length) {x y : Blk} (hf : FrzB h n σ x y) {p : Pl} (hb : BlkR L w p (some x)) : BlkR (L.gc w n σ) w p (some y) := by
  cases hf with
  | dead => exact hb.elim
  | cells k hs =>
    rename_i cs ys e
    obtain ⟨c, h1, h2, h3, h4⟩ := hb
    have hl := hs.length
    have h5 := Frzs.rel s hn hs (drop_take_sub (cs := cs) (c := c.toList.drop p.o) h4 0 k)
    rw [List.drop_zero, List.drop_zero, hl] at h5
    refine ⟨c, h1, h2, ?_, h5⟩
    rw [← hl, List.length_take]
    have := Nat.min_le_right k cs.length
    omega
  | mp hk hv =>
    obtain ⟨es', clk, h1, h2, h3⟩ := hb
    exact ⟨es', clk, h1, Frzs.rel s hn hk h2, Frzs.rel s hn hv h3⟩
theorem FrzB.dead_inv {y : Blk} (hf : FrzB h n σ .dead y) : y = .dead := by cases hf; rfl

/-- Where a piece of a function's code has come. -/
structure At (L0 : LC) (h0 : Heap) (w0 : World) (s : St) (L : LC) (a : Act) (w : World) : Prop where
  steps : Stps L0 h0 w0 L s.h w
  kept : Kept s.lw L0 w0 L w
  low : ∀ id, id < s.lw → id < h0.length → s.h[id]? = h0[id]?
  env : RVs L s.env a.tmps.toList

theorem At.gc {L0 : LC} {h0 : Heap} {w0 : World} {s : St} {L : LC} {a : Act} {w : World} (s0 : SatH L0 h0 w0) (at0 : At L0 h0 w0 s L a w) {s' : St} {σ : List Nat}
    (hg : Gc h0.length s.lw σ s.h s'.h) (hlw : s'.lw = s.lw) (he : Frzs s.h h0.length σ s.env s'.env) : At L0 h0 w0 s' (L.gc w h0.length σ) a w := by
  have sat := at0.steps.sat
  have hn := hg.le
  have hle : LE L0 (L.gc w h0.length σ) := ⟨fun b c e => LC.gc_m (at0.steps.le.m b c e), fun id p e => by
      have hid := s0.lt id p e
      exact ((at0.steps.le.ρ id p e).symm.elim (fun d => .inl d) (fun d => .inr d) |> LC.gc_place_old (w := w) (σ := σ) hid).symm, fun id d => by
      have hid := s0.dead_lt id d
      have := at0.steps.le.dead id d
      simpa only [LC.gc, if_pos hid] using this⟩
  have σge : ∀ j id, σ[j]? = some id → h0.length ≤ id := fun j id e => (hg.kept j id e).1
  have orig1 : ∀ id p, h0.length ≤ id → L.ρ id = some p → (w0.heap.size ≤ p.b ∨ ∃ i q, L0.ρ i = some q ∧ q.b = p.b) := fun id p hid e => by
    rcases at0.steps.orig id p e with e' | ⟨_, k⟩
    · have := s0.lt id p e'; omega
    · exact k
  have dead_inv : ∀ i, (L.gc w h0.length σ).dead i → (i < h0.length ∧ L.dead i) ∨ ∃ j id, i = h0.length + j ∧ σ[j]? = some id ∧ L.dead id := fun i d => by
    simp only [LC.gc] at d
    split at d
    · rename_i hi; exact .inl ⟨hi, d⟩
    · rename_i hi
      obtain ⟨id, h1, h2⟩ := d
      exact .inr ⟨i - h0.length, id, by omega, h1, h2⟩
  have sat' : SatH (L.gc w h0.length σ) s'.h w := by
    refine ⟨fun b c e => ?_, fun id p e => ?_, fun id p e => ?_, fun id p e => ?_, fun id p e d => ?_, fun id p _ e => ?_, fun i j p q ei ej hb => ?_, fun id d => ?_, fun id d _ => ?_⟩
    · rcases LC.gc_m_inv e with e | ⟨_, _, cs, t, fr, h1, h2⟩
      · exact sat.imm b c e
      · exact ⟨cs, t, fr, h1, h2⟩
    · rcases LC.gc_ρ_inv e with ⟨hi, e⟩ | ⟨j, i, rfl, hj, e⟩
      · rw [hg.len]; omega
      · rw [hg.len]; have := (List.getElem?_eq_some_iff.1 hj).1; omega
    · rcases LC.gc_ρ_inv e with ⟨hi, e⟩ | ⟨j, i, rfl, hj, e⟩
      · exact sat.big _ _ e
      · exact sat.big _ _ e
    · have key : ∀ i, L.ρ i = some p → (h0.length ≤ i → i ∈ σ) → (L.gc w h0.length σ).m p.b = none := fun i ei hi => by
        cases hm : (L.gc w h0.length σ).m p.b with
        | none => rfl
        | some c =>
          rcases LC.gc_m_inv hm with hm | ⟨_, ⟨i2, p2, h1, h2, h3, h4⟩, _⟩
          · rw [sat.not_m i p ei] at hm; cases hm
          · have := sat.inj _ _ _ _ h3 ei h4
            subst this
            exact absurd (hi h1) h2
      rcases LC.gc_ρ_inv e with ⟨hi, e⟩ | ⟨j, i, rfl, hj, e⟩
      · exact key id e fun k => by omega
      · exact key i e fun _ => List.mem_of_getElem? hj
    · rcases LC.gc_ρ_inv e with ⟨hi, e⟩ | ⟨j, i, rfl, hj, e⟩ <;> rcases dead_inv _ d with ⟨hi', d⟩ | ⟨j', i', hii, hj', d⟩
      · exact sat.alive _ _ e d
      · omega
      · omega
      · obtain rfl : j = j' := by omega
        rw [hj] at hj'
        cases hj'
        exact sat.alive _ _ e d
    · rcases LC.gc_ρ_inv e with ⟨hi, e⟩ | ⟨j, i, rfl, hj, e⟩
      · by_cases hl : id < s.lw
        · rw [hg.old id hi hl, at0.low id hl hi]
          cases e0 : L0.ρ id with
          | none =>
            rcases at0.steps.orig id p e with k | ⟨k, _⟩
            · rw [e0] at k; cases k
            · omega
          | some p0 =>
            obtain ⟨k1, k2⟩ := at0.kept.keep id p0 hl e0
            rw [e] at k1
            cases k1
            exact BlkR.mono hle k2 (s0.blk id p trivial e0)
        · obtain ⟨x, y, h1, h2, h3⟩ := hg.mid id hi (by omega)
          rw [h2]
          have := sat.blk id p trivial e
          rw [h1] at this
          exact BlkR.gc sat hn h3 this
      · obtain ⟨_, ⟨x, y, h1, h2, h3⟩ | ⟨hl, _⟩⟩ := hg.kept j i hj
        · rw [h2]
          have := sat.blk i p trivial e
          rw [h1] at this
          exact BlkR.gc sat hn h3 this
        · have := sat.lt i p e
          omega
    · rcases LC.gc_ρ_inv ei with ⟨hi, ei⟩ | ⟨j1, i1, rfl, hj1, ei⟩ <;> rcases LC.gc_ρ_inv ej with ⟨hi', ej⟩ | ⟨j2, i2, rfl, hj2, ej⟩
      · exact sat.inj _ _ _ _ ei ej hb
      · have := sat.inj _ _ _ _ ei ej hb
        have := σge _ _ hj2
        omega
      · have := sat.inj _ _ _ _ ei ej hb
        have := σge _ _ hj1
        omega
      · have := sat.inj _ _ _ _ ei ej hb
        subst this
        obtain ⟨k1, e1⟩ := List.getElem?_eq_some_iff.1 hj1
        obtain ⟨k2, e2⟩ := List.getElem?_eq_some_iff.1 hj2
        have := (List.getElem_inj (h₀ := k1) (h₁ := k2) hg.nodup).1 (e1.trans e2.symm)
        omega
    · rcases dead_inv _ d with ⟨hi', d⟩ | ⟨j', i', rfl, hj', d⟩
      · rw [hg.len]; omega
      · rw [hg.len]; have := (List.getElem?_eq_some_iff.1 hj').1; omega
    · rcases dead_inv _ d with ⟨hi', d⟩ | ⟨j', i', rfl, hj', d⟩
      · have hd := sat.dead id d trivial
        by_cases hl : id < s.lw
        · rw [hg.old id hi' hl, hd]
        · obtain ⟨x, y, h1, h2, h3⟩ := hg.mid id hi' (by omega)
          rw [hd] at h1
          cases h1
          rw [h2, h3.dead_inv]
      · have hd := sat.dead _ d trivial
        obtain ⟨_, ⟨x, y, h1, h2, h3⟩ | ⟨_, h2⟩⟩ := hg.kept j' i' hj'
        · rw [hd] at h1
          cases h1
          rw [h2, h3.dead_inv]
        · exact h2
  refine ⟨⟨hle, at0.steps.os, at0.steps.tape, at0.steps.output, at0.steps.size, at0.steps.keep, fun id p e => ?_, by rw [hg.len]; omega, fun b c e => ?_, fun id d => ?_, sat'⟩, ⟨fun id p hl e => ?_⟩, fun id hl hid => ?_, Frzs.rel sat hn he at0.env⟩
  · rcases LC.gc_ρ_inv e with ⟨hi, e⟩ | ⟨j, i, rfl, hj, e⟩
    · rcases at0.steps.orig id p e with k | ⟨k, _⟩
      · exact .inl k
      · omega
    · exact .inr ⟨by omega, orig1 i p (σge _ _ hj) e⟩
  · rcases LC.gc_m_inv e with e | ⟨_, ⟨i, p, h1, _, h3, rfl⟩, _⟩
    · exact at0.steps.newm b c e
    · exact .inr (orig1 i p h1 h3)
  · rcases dead_inv _ d with ⟨hi', d⟩ | ⟨j', i', rfl, hj', d⟩
    · exact at0.steps.newdead id d
    · exact .inr (.inr (by omega))
  · rw [hlw] at hl
    rw [LC.gc_old (s0.lt id p e)]
    exact at0.kept.keep id p hl e
  · rw [hlw] at hl
    rw [hg.old id hid hl]
    exact at0.low id hl hid
end
end Go.Proofs.YtgcdpdkccaabcaaGreat.Ev
