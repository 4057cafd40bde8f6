/- The framework, part R: code as it is after its types were looked up; what it does; functions entered. -/
import Derived.Test.YtipbcjnniamcgaaFwQ
namespace Go.Proofs.Ytipbcjnniamcgaa.Fw
set_option linter.unusedSimpArgs false
set_option linter.unusedVariables false
open Go

/-! ### the edges, reckoned -/
def maskOf (acc : List Nat) (o : Oper) : Nat := o.after.toList.foldl (fun s e => if Region.binds .any e then s ||| (2 ^ e.on ||| acc.getD e.on 0) else s) 0
def masksGo : List Oper → List Nat → List Nat
  | [], acc => acc
  | o :: r, acc => masksGo r (acc ++ [maskOf acc o])

theorem maskOf_bit {acc : List Nat} {o : Oper} {j : Nat} (h : (maskOf acc o).testBit j = true) : ∃ e ∈ o.after, Region.binds .any e = true ∧ (e.on = j ∨ (acc.getD e.on 0).testBit j = true) := by
  have key : ∀ (es : List Edge) (s : Nat), (es.foldl (fun s e => if Region.binds .any e then s ||| (2 ^ e.on ||| acc.getD e.on 0) else s) s).testBit j = true → s.testBit j = true ∨ ∃ e ∈ es, Region.binds .any e = true ∧ (e.on = j ∨ (acc.getD e.on 0).testBit j = true) := by
    intro es
    induction es with
    | nil => intro s h; exact .inl h
    | cons e r ih =>
      intro s h
      simp only [List.foldl_cons] at h
      rcases ih _ h with h1 | ⟨e', he, h1⟩
      · split at h1
        · rename_i hb
          simp only [Nat.testBit_or, Bool.or_eq_true, Nat.testBit_two_pow] at h1
          rcases h1 with h1 | h1 | h1
          · exact .inl h1
          · exact .inr ⟨e, List.mem_cons_self, hb, .inl (by simpa using h1)⟩
          · exact .inr ⟨e, List.mem_cons_self, hb, .inr h1⟩
        · exact .inl h1
      · exact .inr ⟨e', List.mem_cons_of_mem _ he, h1⟩
  rcases key o.after.toList 0 h with h | ⟨e, he, h⟩
  · simp at h
  · exact ⟨e, by simpa using he, h⟩

theorem masks_anc {ops : Array Oper} : ∀ (l : List Oper) (acc : List Nat), l = ops.toList.drop acc.length → (∀ k j, (acc.getD k 0).testBit j = true → Anc ops j k) → ∀ k j, ((masksGo l acc).getD k 0).testBit j = true → Anc ops j k
  | [], acc, _, h => h
  | o :: r, acc, hl, h => by
    have ho : ops[acc.length]? = some o := by
      have : ops.toList[acc.length]? = some o := by
        rw [← List.head?_drop, ← hl]; rfl
      simpa using this
    refine masks_anc r (acc ++ [maskOf acc o]) ?_ ?_
    · have := congrArg List.tail hl
      simpa [List.tail_drop] using this
    · intro k j hk
      by_cases e : k < acc.length
      · rw [List.getD_eq_getElem?_getD, List.getElem?_append_left e, ← List.getD_eq_getElem?_getD] at hk
        exact h k j hk
      · by_cases e2 : k = acc.length
        · subst e2
          simp only [List.getD_eq_getElem?_getD, List.getElem?_append_right (Nat.le_refl _), Nat.sub_self, List.getElem?_cons_zero, Option.getD_some] at hk
          obtain ⟨ed, he, hb, h1⟩ := maskOf_bit hk
          rcases h1 with h1 | h1
          · subst h1; exact .edge ho he hb
          · exact .step ho he hb (h _ _ h1)
        · rw [List.getD_eq_getElem?_getD, List.getElem?_eq_none (by simp; omega)] at hk
          simp at hk

def unM (us : List Nat) (j i : Nat) : Bool := (us.getD i 0).testBit j

/-- Bit by bit: all below 'i'. -/
def allBelow (m i : Nat) : Bool := m &&& (2 ^ i - 1) == 2 ^ i - 1
theorem allBelow_bit {m i j : Nat} (h : allBelow m i = true) (hj : j < i) : m.testBit j = true := by
  have h1 : m &&& (2 ^ i - 1) = 2 ^ i - 1 := by simpa [allBelow] using h
  have h2 : (m &&& (2 ^ i - 1)).testBit j = (2 ^ i - 1).testBit j := by rw [h1]
  rw [Nat.testBit_and, Nat.testBit_two_pow_sub_one] at h2
  simpa [hj] using h2

def noDup : List Nat → Bool
  | [] => true
  | x :: r => !r.contains x && noDup r
def dsts (l : List AOper) : List (Option Nat) := l.map (·.dst)
/-- Each temporary that 'i' reads and that another one of the free part writes is written ahead of it. -/
def readOk (m i t : Nat) : List (Option Nat) → Nat → Bool
  | [], _ => true
  | d :: r, j => (d != some t || j == i || m.testBit j) && readOk m i t r (j + 1)

def readsOk (ms : List Nat) (ds : List (Option Nat)) : List AOper → Nat → Bool
  | [], _ => true
  | x :: r, i => (x.reads.all fun t => readOk (ms.getD i 0) i t ds 0) && readsOk ms ds r (i + 1)
def edgesOk : List Oper → Nat → Bool
  | [], _ => true
  | o :: r, i => (o.after.toList.all fun e => !Region.binds .any e || decide (e.on < i)) && edgesOk r (i + 1)
def ordOk (ms us : List Nat) (n : Nat) : Bool := (List.range n).all fun i => allBelow (ms.getD i 0 ||| us.getD i 0) i
def tailOk (ms : List Nat) (p n : Nat) : Bool := (List.range (n - p)).all fun k => allBelow (ms.getD (p + k) 0) (p + k)

def statB (ops : Array Oper) (l : List AOper) (p : Nat) (us ms : List Nat) : Bool :=
  decide (p ≤ ops.size) && edgesOk ops.toList 0 && readsOk ms (dsts (l.take p)) (l.take p) 0 && noDup ((dsts (l.take p)).filterMap id) && ordOk ms us p && tailOk ms p ops.size

theorem compOpers_len {P : Program} {N : Nat} {ops : Array Oper} : ∀ {os : List Oper} {l : List AOper}, compOpers P N ops os = some l → l.length = os.length ∧ ∀ (i : Nat) (o : Oper), os[i]? = some o → ∃ x : AOper, l[i]? = some x ∧ compOper P N ops o = some x
  | [], l, h => by injection h with h; subst h; exact ⟨rfl, fun i o h => by simp at h⟩
  | o :: r, l, h => by
    simp only [compOpers] at h
    split at h
    · rename_i x l' hx hl'
      injection h with h; subst h
      obtain ⟨h1, h2⟩ := compOpers_len hl'
      refine ⟨by simp [h1], fun i o' hi => ?_⟩
      cases i with
      | zero => injection hi with hi; subst hi; exact ⟨x, rfl, hx⟩
      | succ i => exact h2 i o' hi
    · cases h

theorem readOk_spec {m i t : Nat} : ∀ {ds : List (Option Nat)} {j0 : Nat}, readOk m i t ds j0 = true → ∀ k, ds[k]? = some (some t) → j0 + k ≠ i → m.testBit (j0 + k) = true
  | [], _, _, k, hk, _ => by simp at hk
  | d :: r, j0, h, k, hk, hne => by
    simp only [readOk, Bool.and_eq_true, Bool.or_eq_true] at h
    cases k with
    | zero =>
      injection hk with hk; subst hk
      rcases h.1 with (h1 | h1) | h1
      · simp at h1
      · simp at h1; omega
      · exact h1
    | succ k =>
      have := readOk_spec h.2 k hk (by omega)
      rwa [show j0 + 1 + k = j0 + (k + 1) by omega] at this
theorem readsOk_spec {ms : List Nat} {ds : List (Option Nat)} : ∀ {l : List AOper} {i0 : Nat}, readsOk ms ds l i0 = true → ∀ k x, l[k]? = some x → ∀ t ∈ x.reads, readOk (ms.getD (i0 + k) 0) (i0 + k) t ds 0 = true
  | [], _, _, k, x, hk, _, _ => by simp at hk
  | y :: r, i0, h, k, x, hk, t, ht => by
    simp only [readsOk, Bool.and_eq_true] at h
    cases k with
    | zero => injection hk with hk; subst hk; exact List.all_eq_true.1 h.1 t ht
    | succ k =>
      have := readsOk_spec h.2 k x hk t ht
      rwa [show i0 + 1 + k = i0 + (k + 1) by omega] at this
theorem edgesOk_spec : ∀ {l : List Oper} {i0 : Nat}, edgesOk l i0 = true → ∀ k o, l[k]? = some o → ∀ e ∈ o.after, Region.binds .any e = true → e.on < i0 + k
  | [], _, _, k, o, hk, _, _, _ => by simp at hk
  | y :: r, i0, h, k, o, hk, e, he, hb => by
    simp only [edgesOk, Bool.and_eq_true] at h
    cases k with
    | zero =>
      injection hk with hk; subst hk
      have := List.all_eq_true.1 h.1 e (by simpa using he)
      simpa [hb] using this
    | succ k =>
      have := edgesOk_spec h.2 k o hk e he hb
      omega
theorem noDup_spec : ∀ {l : List (Option Nat)}, noDup (l.filterMap id) = true → ∀ (i j d : Nat), l[i]? = some (some d) → l[j]? = some (some d) → i = j
  | [], _, i, j, d, hi, _ => by simp at hi
  | o :: r, h, i, j, d, hi, hj => by
    have hr : noDup (r.filterMap id) = true := by
      cases o with
      | none => simpa [List.filterMap_cons] using h
      | some x => simp only [List.filterMap_cons, id, noDup, Bool.and_eq_true] at h; exact h.2
    have head : ∀ (k : Nat), o = some d → r[k]? = some (some d) → False := by
      intro k ho hk
      subst ho
      simp only [List.filterMap_cons, id, noDup, Bool.and_eq_true, Bool.not_eq_true'] at h
      have hm : d ∈ r.filterMap id := List.mem_filterMap.2 ⟨some d, List.mem_of_getElem? hk, rfl⟩
      have := h.1
      simp at this
      exact this (List.mem_of_getElem? hk)
    cases i with
    | zero =>
      cases j with
      | zero => rfl
      | succ j => injection hi with hi; exact (head j hi hj).elim
    | succ i =>
      cases j with
      | zero => injection hj with hj; exact (head i hj hi).elim
      | succ j => rw [noDup_spec hr i j d hi hj]

theorem stat_of {P : Program} {N : Nat} {ops : Array Oper} {l : List AOper} {p : Nat} {us ms : List Nat} (hl : compOpers P N ops ops.toList = some l) (hms : masksGo ops.toList [] = ms) (h : statB ops l p us ms = true) : Stat P N ops l p (unM us) := by
  simp only [statB, Bool.and_eq_true, decide_eq_true_eq] at h
  obtain ⟨⟨⟨⟨⟨h1, h2⟩, h3⟩, h4⟩, h5⟩, h6⟩ := h
  obtain ⟨c1, c2⟩ := compOpers_len hl
  have hanc : ∀ k j, (ms.getD k 0).testBit j = true → Anc ops j k := by
    intro k j hk
    rw [← hms] at hk
    exact masks_anc ops.toList [] rfl (fun k j h => by simp at h) k j hk
  have htk : ∀ {i : Nat} {x : AOper}, i < p → l[i]? = some x → (l.take p)[i]? = some x := fun h hx => by rw [List.getElem?_take, if_pos h]; exact hx
  refine ⟨by simpa using c1, h1, fun i o ho => c2 i o (by simpa using ho), fun i o e ho he hb => ?_, fun i j x y t hi hj hx hy ht hd hne => ?_, fun i j x y d hi hj hx hy hxd hyd => ?_, fun j i hji hi hu => ?_, fun j k hk hks hjk => ?_⟩
  · have := edgesOk_spec h2 i o (by simpa using ho) e he hb
    omega
  · have r1 := readsOk_spec h3 i x (htk hi hx) t ht
    rw [Nat.zero_add] at r1
    have r2 := readOk_spec r1 j (by simp only [dsts, List.getElem?_map, htk hj hy, Option.map_some, hd]) (by omega)
    rw [Nat.zero_add] at r2
    exact hanc i j r2
  · exact noDup_spec h4 i j d (by simp only [dsts, List.getElem?_map, htk hi hx, Option.map_some, hxd]) (by simp only [dsts, List.getElem?_map, htk hj hy, Option.map_some, hyd])
  · have := List.all_eq_true.1 h5 i (by simpa using hi)
    have hb := allBelow_bit this hji
    rw [Nat.testBit_or, Bool.or_eq_true] at hb
    rcases hb with hb | hb
    · exact hanc i j hb
    · rw [unM, hb] at hu; cases hu
  · have := List.all_eq_true.1 h6 (k - p) (by simp; omega)
    rw [show p + (k - p) = k by omega] at this
    exact hanc k j (allBelow_bit this hjk)

/-- A region whose order is drawn. -/
theorem AW_draw {P : Program} {rr : Bool} {N rid : Nat} {ops : Array Oper} {l : List AOper} {p : Nat} {un : Nat → Nat → Bool} (hs : Stat P N ops l p un) (hm : P.follows .mixedOrders = true) {Q : Exit → St → Prop} {s : St}
    (h : drawA P un (l.take p) 0 s.E s.H [] [] fun E H => seqOps P (l.drop p) ⟨s.D, E, H⟩ (Q .normal)) : AW P rr N (.region rid ops true) Q s := by
  intro ro c0 a0 _ hH hok hr
  refine wpIn_region_any hm ?_
  have hok' := Ctx.drew_ok hok
  obtain ⟨M, hM⟩ := hok.fin
  have hinj : ∀ i j, M + i = M + j → i = j := fun i j h => by omega
  have hfree : ∀ j, ¬ c0.U (M + j) ∧ ¬ c0.R (M + j) := fun j => ⟨fun h => by have := hM _ (.inl h); omega, fun h => by have := hM _ (.inr h); omega⟩
  obtain ⟨val, wr, rd, told, hK⟩ := extract (β := fun i => M + i) hinj (l.take p) 0 s.E s.H [] [] h (fun j _ => hH ▸ free_nx hok (hfree j).1)
  have hlenA : (l.take p).length = p := by have := hs.len; have := hs.ple; simp; omega
  rw [hlenA] at hK
  let c1 : Ctx := { c0.drew with R := fun b => c0.R b ∨ ∃ i, i < p ∧ b = M + i }
  have hl01 : Later0 c0.drew c1 := ⟨Nat.le_refl _, rfl, rfl, rfl, fun _ h => h, fun _ x' _ hx => ⟨x', hx, Nat.le_refl _, fun _ => ⟨rfl, fun _ _ cells e => ⟨cells, e, fun arr h => ⟨arr, h, rfl⟩⟩⟩⟩, fun _ _ h => ⟨rfl, h⟩⟩
  have hok1 : Ok c1 := by
    refine ⟨hok'.used, ⟨M + p, fun b hb => ?_⟩, hok'.inj, fun i x hx => (hok'.blk i x hx).later0 hl01 rfl rfl⟩
    rcases hb with h | h | ⟨i, hi, e⟩
    · have := hM b (.inl h); omega
    · have := hM b (.inr h); omega
    · omega
  have hlat : Later c0 c1 := ⟨(c0.drew_later).toLater0.trans hl01, fun b hb => ⟨.inl hb, fun h => h⟩⟩
  have tr : ∀ {x : AV} {v : Value}, Enc c0 x v → Enc c1 x v := fun h => h.later hlat
  refine phaseA hs (β := fun i => M + i) (D := s.D) hinj told (c0 := c0) (fun i => (hfree i).2) hK ops.size (Array.replicate ops.size false) (by simp) ?_ ?_ ?_ c1 a0 ?_
  · have : (Array.replicate ops.size false).toList.filter id = [] := by simp
    rw [this]; simp
  · intro i o e hi; simp [Array.getD_eq_getD_getElem?, Array.getElem?_replicate] at hi
    split at hi <;> simp at hi
  · intro j _; simp [Array.getD_eq_getD_getElem?, Array.getElem?_replicate]; split <;> rfl
  · have hLf : ∀ j, (Array.replicate ops.size false).getD j false = false := by
      intro j; simp [Array.getD_eq_getD_getElem?, Array.getElem?_replicate]; split <;> rfl
    refine ⟨hok1, hlat, hr.size, hr.dlen, fun i hi => let ⟨r, e, k⟩ := hr.dmark i hi; ⟨r, e, tr k⟩, fun j t _ hL => ?_, fun t _ => tr (hr.tmp t), ?_, fun j hj _ => ⟨(hfree j).1, .inr ⟨j, hj, rfl⟩⟩⟩
    · rw [hLf] at hL; cases hL
    · have : ∀ m, hof s.H wr (fun j => (Array.replicate ops.size false).getD j false) m = s.H := by
        intro m
        induction m with
        | zero => rfl
        | succ m ih => simp only [hof, hLf]; rw [if_neg (by simp)]; simpa [hLf] using ih
      rw [this]; exact hH

end Go.Proofs.Ytipbcjnniamcgaa.Fw
