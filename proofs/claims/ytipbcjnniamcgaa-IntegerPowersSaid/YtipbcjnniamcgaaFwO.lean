/- The framework, part O: every order that the edges allow comes to what the text's order comes to. -/
import Derived.Test.YtipbcjnniamcgaaFwN
namespace Go.Proofs.Ytipbcjnniamcgaa.Fw
set_option linter.unusedSimpArgs false
set_option linter.unusedVariables false
open Go

def AOper.reads (x : AOper) : List Nat := x.op.reads ++ (match x.g with | some (t, _) => [t] | none => [])

/-- 'j' comes before 'i' in every order. -/
inductive Anc (ops : Array Oper) : Nat → Nat → Prop
  | edge {i : Nat} {o : Oper} {e : Edge} (ho : ops[i]? = some o) (he : e ∈ o.after) (hb : Region.binds .any e = true) : Anc ops e.on i
  | step {i j : Nat} {o : Oper} {e : Edge} (ho : ops[i]? = some o) (he : e ∈ o.after) (hb : Region.binds .any e = true) (h : Anc ops j e.on) : Anc ops j i

structure Stat (P : Program) (N : Nat) (ops : Array Oper) (l : List AOper) (p : Nat) (un : Nat → Nat → Bool) : Prop where
  len : l.length = ops.size
  ple : p ≤ ops.size
  comp : ∀ (i : Nat) (o : Oper), ops[i]? = some o → ∃ x : AOper, l[i]? = some x ∧ compOper P N ops o = some x
  edge : ∀ (i : Nat) (o : Oper) (e : Edge), ops[i]? = some o → e ∈ o.after → Region.binds .any e = true → e.on < i
  tmp : ∀ (i j : Nat) (x y : AOper) (t : Nat), i < p → j < p → l[i]? = some x → l[j]? = some y → t ∈ x.reads → y.dst = some t → j ≠ i → Anc ops j i
  dst : ∀ (i j : Nat) (x y : AOper) (d : Nat), i < p → j < p → l[i]? = some x → l[j]? = some y → x.dst = some d → y.dst = some d → i = j
  ord : ∀ j i, j < i → i < p → un j i = false → Anc ops j i
  tail : ∀ j k, p ≤ k → k < ops.size → j < k → Anc ops j k

theorem mem_ready {ops : Array Oper} {listed : Array Bool} {i : Nat} : i ∈ Region.ready .any ops listed ↔ i < ops.size ∧ listed.getD i true = false ∧ ∃ o, ops[i]? = some o ∧ ∀ e ∈ o.after, Region.binds .any e = true → listed.getD e.on false = true := by
  unfold Region.ready
  simp only [List.mem_filter, List.mem_range, Bool.and_eq_true, Bool.not_eq_true']
  constructor
  · rintro ⟨h1, h2, h3⟩
    refine ⟨h1, h2, ?_⟩
    cases ho : ops[i]? with
    | none => rw [ho] at h3; simp at h3
    | some o =>
      rw [ho] at h3
      simp only [Option.map_some, Option.getD_some, Array.all_eq_true_iff_forall_mem] at h3
      refine ⟨o, rfl, fun e he hb => ?_⟩
      have := h3 e he
      simpa [hb] using this
  · rintro ⟨h1, h2, o, ho, h3⟩
    refine ⟨h1, h2, ?_⟩
    rw [ho]
    simp only [Option.map_some, Option.getD_some, Array.all_eq_true_iff_forall_mem]
    intro e he
    by_cases hb : Region.binds .any e = true
    · simp [h3 e he hb]
    · simp at hb; simp [hb]

/-- What is listed is shut downwards. -/
def Down (ops : Array Oper) (L : Nat → Bool) : Prop := ∀ i o e, L i = true → ops[i]? = some o → e ∈ o.after → Region.binds .any e = true → L e.on = true

theorem Anc.down {ops : Array Oper} {L : Nat → Bool} (hd : Down ops L) {j i : Nat} (h : Anc ops j i) : L i = true → L j = true := by
  induction h with
  | edge ho he hb => exact fun hi => hd _ _ _ hi ho he hb
  | step ho he hb _ ih => exact fun hi => ih (hd _ _ _ hi ho he hb)
theorem Anc.ready {ops : Array Oper} {L : Nat → Bool} (hd : Down ops L) {j i : Nat} (h : Anc ops j i) (hr : ∀ o e, ops[i]? = some o → e ∈ o.after → Region.binds .any e = true → L e.on = true) : L j = true := by
  cases h with
  | edge ho he hb => exact hr _ _ ho he hb
  | step ho he hb h => exact h.down hd (hr _ _ ho he hb)
theorem Anc.lt {P : Program} {N : Nat} {ops : Array Oper} {l : List AOper} {p : Nat} {un : Nat → Nat → Bool} (hs : Stat P N ops l p un) {j i : Nat} (h : Anc ops j i) : j < i := by
  induction h with
  | edge ho he hb => exact hs.edge _ _ _ ho he hb
  | step ho he hb _ ih => exact Nat.lt_trans ih (hs.edge _ _ _ ho he hb)

/-! ### memory, whatever is listed -/
def hof (H : AHeap) (wr : Nat → Option (Nat × ABlk)) (L : Nat → Bool) : Nat → AHeap
  | 0 => H
  | k + 1 => if L k = true then applyW (hof H wr L k) (wr k) else hof H wr L k

theorem hof_congr {H : AHeap} {wr : Nat → Option (Nat × ABlk)} {L L' : Nat → Bool} {q : Nat} : ∀ m, (∀ k, k < m → (∃ y, wr k = some (q, y)) → L k = L' k) → hof H wr L m q = hof H wr L' m q
  | 0, _ => rfl
  | m + 1, h => by
    have ih := hof_congr (H := H) m (fun k hk hy => h k (by omega) hy)
    have other : (¬ ∃ y, wr m = some (q, y)) → ∀ X : AHeap, applyW X (wr m) q = X q := by
      intro hn X
      cases hw : wr m with
      | none => rfl
      | some b =>
        obtain ⟨b, y⟩ := b
        have : q ≠ b := fun e => hn ⟨y, by rw [hw, e]⟩
        simp [applyW, AHeap.upd, this]
    by_cases hy : ∃ y, wr m = some (q, y)
    · have e := h m (by omega) hy
      obtain ⟨y, hy⟩ := hy
      simp only [hof, e]
      split
      · simp [hy, applyW, AHeap.upd]
      · exact ih
    · simp only [hof]
      split <;> split <;> simp only [other hy, ih]

theorem hof_heapAt (H : AHeap) (wr : Nat → Option (Nat × ABlk)) (j : Nat) : ∀ m, j ≤ m → hof H wr (fun k => decide (k < j)) m = heapAt H wr j := by
  have h1 : ∀ m, m ≤ j → hof H wr (fun k => decide (k < j)) m = heapAt H wr m := by
    intro m
    induction m with
    | zero => intro _; rfl
    | succ m ih =>
      intro hm
      simp only [hof, heapAt, ih (by omega)]
      rw [if_pos (by simp; omega)]
  intro m hm
  induction m with
  | zero => exact h1 0 (by omega) |>.trans (by rw [show j = 0 by omega])
  | succ m ih =>
    by_cases e : j = m + 1
    · rw [e]; exact e ▸ h1 (m + 1) (by omega)
    · simp only [hof]
      rw [if_neg (by simp; omega)]
      exact ih (by omega)

theorem applyW_comm {H : AHeap} {w w' : Option (Nat × ABlk)} (h : ∀ b y y', w = some (b, y) → w' ≠ some (b, y')) : applyW (applyW H w) w' = applyW (applyW H w') w := by
  cases w with
  | none => rfl
  | some a =>
    cases w' with
    | none => rfl
    | some b =>
      obtain ⟨a, x⟩ := a
      obtain ⟨b, y⟩ := b
      have : a ≠ b := fun e => h a x y rfl (by rw [e])
      exact upd_comm H _ _ this

theorem hof_add {H : AHeap} {wr : Nat → Option (Nat × ABlk)} {L : Nat → Bool} {j : Nat} (hj : L j = false) : ∀ m, (∀ k, j < k → k < m → L k = true → ∀ b y y', wr j = some (b, y) → wr k ≠ some (b, y')) → j < m → hof H wr (fun k => L k || decide (k = j)) m = applyW (hof H wr L m) (wr j) := by
  have h0 : ∀ m, m ≤ j → hof H wr (fun k => L k || decide (k = j)) m = hof H wr L m := by
    intro m
    induction m with
    | zero => intro _; rfl
    | succ m ih =>
      intro hm
      simp only [hof, ih (by omega)]
      have : (L m || decide (m = j)) = L m := by simp; omega
      rw [this]
  intro m
  induction m with
  | zero => intro _ h; omega
  | succ m ih =>
    intro h hm
    by_cases e : m = j
    · subst e
      simp only [hof, h0 m (Nat.le_refl _), hj]
      simp
    · have e1 : (L m || decide (m = j)) = L m := by simp [e]
      simp only [hof, e1, ih (fun k hk hk' => h k hk (by omega)) (by omega)]
      split
      · rename_i hl
        exact applyW_comm (fun b y y' hb => h m (by omega) (by omega) hl b y y' hb)
      · rfl

/-! ### frames, whatever is listed -/
theorem env_miss {l : List AOper} {val : Nat → AV} {E : Env} {t : Nat} : ∀ k, (∀ j, j < k → dstAt l j ≠ some t) → (envAt l val E k).get t = E.get t
  | 0, _ => rfl
  | k + 1, h => by
    have ih := env_miss (val := val) (E := E) k (fun j hj => h j (by omega))
    have := h k (by omega)
    simp only [envAt]
    cases hd : dstAt l k with
    | none => exact ih
    | some d =>
      rw [hd] at this
      simp only [putE, Env.get_set]
      rw [if_neg (fun e => this (by rw [e]))]
      exact ih
theorem env_hit {l : List AOper} {val : Nat → AV} {E : Env} {t j : Nat} (hj : dstAt l j = some t) : ∀ k, j < k → (∀ i, i < k → dstAt l i = some t → i = j) → (envAt l val E k).get t = val j
  | 0, h, _ => by omega
  | k + 1, h, hu => by
    simp only [envAt]
    by_cases e : k = j
    · subst e
      rw [hj]
      simp only [putE, Env.get_set, if_true]
    · have ih := env_hit (val := val) (E := E) hj k (by omega) (fun i hi => hu i (by omega))
      cases hd : dstAt l k with
      | none => exact ih
      | some d =>
        simp only [putE, Env.get_set]
        rw [if_neg (fun e2 => e (hu k (by omega) (by rw [hd, e2])))]
        exact ih

theorem getD_true_false (a : Array Bool) (i : Nat) (h : i < a.size) : a.getD i true = a.getD i false := by simp [Array.getD, h]
theorem getD_set (a : Array Bool) (i j : Nat) (hi : i < a.size) : (a.setIfInBounds i true).getD j false = (a.getD j false || decide (j = i)) := by
  simp only [Array.getD_eq_getD_getElem?]
  by_cases e : j = i
  · subst e; simp [hi]
  · rw [Array.getElem?_setIfInBounds_ne (fun h => e h.symm)]; simp [e]

end Go.Proofs.Ytipbcjnniamcgaa.Fw
