/- The framework, part B: states, what a piece of code does to them, calls; the rules of control. -/
import Derived.Test.YtipbcjnniamcgaaFwA
import Derived.OrdersIn
import Derived.RangeFuncIn
namespace Go.Proofs.Ytipbcjnniamcgaa.Fw
set_option linter.unusedSimpArgs false
set_option linter.unusedVariables false
open Go

abbrev Env := List (Nat × AV)
def Env.get : Env → Nat → AV
  | [], _ => .bot
  | (k, v) :: r, t => if k = t then v else Env.get r t
/-- Kept in rising order, one entry a key. -/
def Env.set : Env → Nat → AV → Env
  | [], t, x => [(t, x)]
  | (k, v) :: r, t, x => if t < k then (t, x) :: (k, v) :: r else if k = t then (t, x) :: r else (k, v) :: Env.set r t x
def Env.keep : Env → List Nat → Env
  | [], _ => []
  | (k, v) :: r, l => if l.contains k then (k, v) :: Env.keep r l else Env.keep r l

theorem Env.get_set (E : Env) (t : Nat) (x : AV) (u : Nat) : (E.set t x).get u = if u = t then x else E.get u := by
  induction E with
  | nil =>
    simp only [Env.set, Env.get]
    by_cases h : u = t
    · rw [if_pos h, if_pos h.symm]
    · rw [if_neg h, if_neg (fun e => h e.symm)]
  | cons p r ih =>
    obtain ⟨k, v⟩ := p
    simp only [Env.set]
    by_cases h1 : t < k
    · rw [if_pos h1]
      simp only [Env.get]
      by_cases h : u = t
      · rw [if_pos h, if_pos h.symm]
      · rw [if_neg h, if_neg (fun e => h e.symm)]
    · rw [if_neg h1]
      by_cases h2 : k = t
      · rw [if_pos h2]
        simp only [Env.get]
        by_cases h : u = t
        · rw [if_pos h, if_pos h.symm]
        · rw [if_neg h, if_neg (fun e => h e.symm), if_neg (fun e => h (e.symm.trans h2))]
      · rw [if_neg h2]
        simp only [Env.get]
        by_cases h : k = u
        · rw [if_pos h, if_pos h, if_neg (fun e => h2 (h.trans e))]
        · rw [if_neg h, if_neg h]; exact ih

theorem Env.get_keep (E : Env) (l : List Nat) (u : Nat) : (E.keep l).get u = .bot ∨ (E.keep l).get u = E.get u := by
  induction E with
  | nil => exact .inl rfl
  | cons p r ih =>
    obtain ⟨k, v⟩ := p
    simp only [Env.keep]
    split
    · simp only [Env.get]; split
      · exact .inr rfl
      · exact ih
    · rename_i hk
      rcases ih with h | h
      · exact .inl h
      · simp only [Env.get]; split
        · rename_i e; subst e
          left
          have : ∀ (r : Env), (∀ w, l.contains k = false → (Env.keep r l).get k = w → w = .bot) := by
            intro r
            induction r with
            | nil => intro w _ h; exact h.symm
            | cons q r ih2 =>
              obtain ⟨k2, v2⟩ := q
              intro w hl h
              simp only [Env.keep] at h
              split at h
              · rename_i hc
                simp only [Env.get] at h
                split at h
                · rename_i e2; subst e2; rw [hl] at hc; cases hc
                · exact ih2 w hl h
              · exact ih2 w hl h
          exact this r _ (by simpa using hk) rfl
        · exact .inr h

structure St where
  D : List Nat
  E : Env
  H : AHeap

/-- The fence of a frame: none at all, but for the round it is of. -/
def FW (ro : Option Nat) : Fence := { Fence.wide with round := ro }

structure RelA (N : Nat) (c : Ctx) (D : List Nat) (E : Env) (a : Act) : Prop where
  size : a.tmps.size = N
  tmp : ∀ t, Enc c (E.get t) (a.tmps.getD t undef)
  dlen : a.defers.length = D.length
  dmark : ∀ i (h : i < D.length), ∃ r, a.defers[i]? = some { target := .collected r, args := #[] } ∧ Enc c (.ptr D[i] 0 0) (.pointer (some ⟨r, 0, none⟩))

theorem RelA.later {N : Nat} {c c' : Ctx} {D : List Nat} {E : Env} {a : Act} (h : Later c c') (r : RelA N c D E a) : RelA N c' D E a :=
  ⟨r.size, fun t => (r.tmp t).later h, r.dlen, fun i hi => let ⟨q, e, k⟩ := r.dmark i hi; ⟨q, e, k.later h⟩⟩

def Post (N : Nat) (c : Ctx) (Q : Exit → St → Prop) : Exit → Act → World → Prop := fun e a w =>
  ∃ (c' : Ctx) (s : St), c'.H = s.H ∧ c'.w = w ∧ Ok c' ∧ RelA N c' s.D s.E a ∧ Later c c' ∧ Q e s

def AW (P : Program) (rr : Bool) (N : Nat) (code : Code) (Q : Exit → St → Prop) (s : St) : Prop :=
  ∀ (ro : Option Nat) (c : Ctx) (a : Act), (rr = false → ro = none) → c.H = s.H → Ok c → RelA N c s.D s.E a → code.wpIn (FW ro) 0 P (Post N c Q) a c.w

/-- What a call does. -/
def Run (P : Program) (f : FuncId) (args : List AV) (H : AHeap) (Q : AV → AHeap → Prop) : Prop :=
  (∃ fn, P.funcs[f]? = some fn ∧ (fn.name == "runtime.NumGoroutine") = false ∧ fn.body.isNone = false) ∧
  ∀ (c : Ctx) (vs : Array Value), c.H = H → Ok c → vs.size = args.length → (∀ i (h : i < args.length) (h' : i < vs.size), Enc c (args[i]) (vs[i])) →
    Calls P f vs c.w fun e w' => ∃ (c' : Ctx) (v : Value) (r : AV), e = .returned v ∧ c'.w = w' ∧ Ok c' ∧ Later c c' ∧ Enc c' r v ∧ Q r c'.H

theorem Run.mono {P : Program} {f : FuncId} {args : List AV} {H : AHeap} {Q Q' : AV → AHeap → Prop} (h : Run P f args H Q) (hq : ∀ r H', Q r H' → Q' r H') : Run P f args H Q' :=
  ⟨h.1, fun c vs hH hok hs he => (h.2 c vs hH hok hs he).mono fun _ _ ⟨c', v, r, a1, a2, a3, a4, a5, a6⟩ => ⟨c', v, r, a1, a2, a3, a4, a5, hq _ _ a6⟩⟩

theorem callsIn_FW {ro : Option Nat} {n : Nat} {P : Program} {f : FuncId} {args : Array Value} {w : World} {R : Ending → World → Prop} (h : Calls P f args w R) : CallsIn (FW ro) n P f args w R :=
  (callsIn_wide (n := n)).2 h

theorem Post.mono {N : Nat} {c0 c : Ctx} {Q Q' : Exit → St → Prop} {e : Exit} {a : Act} {w : World} (hl : Later c0 c) (hq : ∀ s, Q e s → Q' e s) (h : Post N c Q e a w) : Post N c0 Q' e a w :=
  let ⟨c', s, h1, h2, h3, h4, h5, h6⟩ := h
  ⟨c', s, h1, h2, h3, h4, hl.trans h5, hq s h6⟩

theorem AW.mono {P : Program} {rr : Bool} {N : Nat} {code : Code} {Q Q' : Exit → St → Prop} {s : St} (h : AW P rr N code Q s) (hq : ∀ e s, Q e s → Q' e s) : AW P rr N code Q' s :=
  fun ro c a hr hH hok hrel => wpIn_mono (h ro c a hr hH hok hrel) fun e _ _ hp => Post.mono (Later.refl c) (hq e) hp

/-- A state may be taken for another one (weaker; memory given up). -/
def Settle (K : St → Prop) (s : St) : Prop :=
  ∀ (N : Nat) (c : Ctx) (a : Act), c.H = s.H → Ok c → RelA N c s.D s.E a → ∃ (c' : Ctx) (s' : St), c'.H = s'.H ∧ c'.w = c.w ∧ Ok c' ∧ RelA N c' s'.D s'.E a ∧ Later c c' ∧ K s'

theorem Settle.now {K : St → Prop} {s : St} (h : K s) : Settle K s := fun _ c _ hH hok hr => ⟨c, s, hH, rfl, hok, hr, Later.refl c, h⟩
theorem Settle.mono {K K' : St → Prop} {s : St} (h : Settle K s) (hk : ∀ s, K s → K' s) : Settle K' s := fun N c a hH hok hr =>
  let ⟨c', s', h1, h2, h3, h4, h5, h6⟩ := h N c a hH hok hr; ⟨c', s', h1, h2, h3, h4, h5, hk _ h6⟩
theorem Settle.join {K : St → Prop} {s : St} (h : Settle (Settle K) s) : Settle K s := fun N c a hH hok hr =>
  let ⟨c', s', h1, h2, h3, h4, h5, h6⟩ := h N c a hH hok hr
  let ⟨c'', s'', g1, g2, g3, g4, g5, g6⟩ := h6 N c' a h1 h3 h4
  ⟨c'', s'', g1, g2.trans h2, g3, g4, h5.trans g5, g6⟩

theorem AW.settle {P : Program} {rr : Bool} {N : Nat} {code : Code} {Q : Exit → St → Prop} {s : St} (h : Settle (fun s' => AW P rr N code Q s') s) : AW P rr N code Q s :=
  fun ro c a hr hH hok hrel =>
    let ⟨c', s', h1, h2, h3, h4, h5, h6⟩ := h N c a hH hok hrel
    h2 ▸ wpIn_mono (h6 ro c' a hr h1 h3 h4) fun _ _ _ hp => Post.mono h5 (fun _ q => q) hp

theorem Post.settle {N : Nat} {c : Ctx} {Q : Exit → St → Prop} {e : Exit} {a : Act} {w : World} (h : Post N c (fun e s => Settle (Q e) s) e a w) : Post N c Q e a w :=
  let ⟨c', s, h1, h2, h3, h4, h5, h6⟩ := h
  let ⟨c'', s'', g1, g2, g3, g4, g5, g6⟩ := h6 N c' a h1 h3 h4
  ⟨c'', s'', g1, g2.trans h2, g3, g4, h5.trans g5, g6⟩

/-- Slots may be forgotten. -/
theorem Settle.env {K : St → Prop} {D : List Nat} {E E' : Env} {H : AHeap} (he : ∀ t, E'.get t = .bot ∨ E'.get t = E.get t) (h : K ⟨D, E', H⟩) : Settle K ⟨D, E, H⟩ :=
  fun _ c _ hH hok hr => ⟨c, ⟨D, E', H⟩, hH, rfl, hok, ⟨hr.size, fun t => by
    rcases he t with e | e
    · rw [e]; exact .bot _
    · rw [e]; exact hr.tmp t, hr.dlen, hr.dmark⟩, Later.refl c, h⟩

theorem Settle.keep {K : St → Prop} {D : List Nat} {E : Env} {H : AHeap} (l : List Nat) (h : K ⟨D, E.keep l, H⟩) : Settle K ⟨D, E, H⟩ := Settle.env (fun t => Env.get_keep E l t) h

/-- The context in which a block is no longer followed. -/
def Ctx.drop (c : Ctx) (b : Nat) : Ctx := { c with H := c.H.upd b none }

theorem Ctx.drop_later (c : Ctx) (b : Nat) : Later c (c.drop b) := by
  refine ⟨⟨Nat.le_refl _, rfl, rfl, rfl, fun _ h => h, ?_, ?_⟩, fun _ h => ⟨h, fun k => k⟩⟩
  · intro i x' _ hx
    have hx2 : (if i = b then none else c.H i) = some x' := hx
    split at hx2
    · cases hx2
    · exact ⟨x', hx2, Nat.le_refl _, fun _ => ⟨rfl, fun _ _ cells e => ⟨cells, e, fun arr h => ⟨arr, h, rfl⟩⟩⟩⟩
  · rintro k _ hm
    refine ⟨rfl, fun ⟨i, hi, e⟩ => hm ⟨i, ?_, e⟩⟩
    have hi2 : (if i = b then none else c.H i) ≠ none := hi
    split at hi2
    · exact absurd rfl hi2
    · exact hi2

theorem Ctx.drop_H (c : Ctx) (b i : Nat) (x : ABlk) (h : (c.drop b).H i = some x) : i ≠ b ∧ c.H i = some x := by
  have h2 : (if i = b then none else c.H i) = some x := h
  split at h2
  · cases h2
  · exact ⟨‹_›, h2⟩

theorem BlkOk.later0 {c c' : Ctx} {b : Nat} {x : ABlk} (h : Later0 c c') (hμ : c'.μ b = c.μ b) (hw : c'.w.heap[c.μ b]? = c.w.heap[c.μ b]?) (k : BlkOk c b x) : BlkOk c' b x := by
  cases x with
  | row ty es cells =>
    obtain ⟨arr, h1, h2, h3⟩ := k
    exact ⟨arr, by rw [hμ, hw]; exact h1, h2, fun i hi hi' => (h3 i hi hi').later0 h⟩
  | raw o => exact ⟨by rw [hμ, hw]; exact k.1, k.2⟩

theorem BlkOk.later {c c' : Ctx} {b : Nat} {x : ABlk} (h : Later c c') (hμ : c'.μ b = c.μ b) (hw : c'.w.heap[c.μ b]? = c.w.heap[c.μ b]?) (k : BlkOk c b x) : BlkOk c' b x := k.later0 h.toLater0 hμ hw

theorem Ctx.drop_ok {c : Ctx} (h : Ok c) (b : Nat) : Ok (c.drop b) := by
  have ne : ∀ i, (c.drop b).H i ≠ none → c.H i ≠ none := by
    intro i hi
    cases hx : (c.drop b).H i with
    | none => exact absurd hx hi
    | some x => rw [(c.drop_H b i x hx).2]; simp
  refine ⟨fun i hi => h.used i (ne i hi), h.fin, fun i j hi hj e => h.inj i j (ne i hi) (ne j hj) e, fun i x hx => ?_⟩
  exact (h.blk i x (c.drop_H b i x hx).2).later (c.drop_later b) rfl rfl

/-- A block may be given up. -/
theorem Settle.kill {K : St → Prop} {D : List Nat} {E : Env} {H : AHeap} (b : Nat) (h : Settle K ⟨D, E, H.upd b none⟩) : Settle K ⟨D, E, H⟩ := by
  refine Settle.join ?_
  intro N c a hH hok hr
  exact ⟨c.drop b, ⟨D, E, H.upd b none⟩, by simp only [Ctx.drop, hH], rfl, Ctx.drop_ok hok b, hr.later (c.drop_later b), c.drop_later b, h⟩

/-- An owned row that is not written any more. -/
theorem Enc.freeze {c : Ctx} (hok : Ok c) {b L off n : Nat} {t : Bool} {ty : TypeId} {es : Nat} {cells : List AV} {v : Value} (h : Enc c (.own b L off n t) v) (hH : c.H b = some (.row ty es cells)) (hL : cells.length = L)
    (hn : n = 0 ∨ off + n * es ≤ L) : Enc (c.drop b) (.seq n ((cells.drop off).take (n * es)) t) v := by
  cases h with
  | own _ _ _ _ _ _ _ hb hL' hv =>
    obtain ⟨base, cap, arr, rfl, h0, h1, h2, h3, h4, h5⟩ := hv ty es cells hH hL
    obtain ⟨arr', g1, g2, g3⟩ := hok.blk b _ hH
    obtain rfl : arr = arr' := by rw [h4] at g1; injection g1 with g1; injection g1
    refine .seq n _ t base cap (fun i => arr.getD (off + i) undef) (fun e => by subst e; simp) h1 h2 h3 ?_ ?_ ?_
    · intro hpos
      have hpos' : 0 < n := by
        rcases Nat.eq_zero_or_pos n with e | e
        · subst e; simp at hpos
        · exact e
      have hbase : base = some ⟨c.μ b, off, none⟩ := h0.resolve_left (by omega)
      refine ⟨c.μ b, off, hbase, ?_, (Array.getElem?_eq_some_iff.1 h4).1, ?_⟩
      · rintro ⟨i, hi, e⟩
        cases hx : (c.drop b).H i with
        | none => exact hi hx
        | some x =>
          obtain ⟨hne, hci⟩ := c.drop_H b i x hx
          exact hne (hok.inj i b (by rw [hci]; simp) (by rw [hH]; simp) e)
      · intro i hi
        have hi' : off + i < cells.length := by
          simp only [List.length_take, List.length_drop] at hi
          omega
        show World.cell? c.w _ = _
        simp only [World.cell?, h4]
        rw [Array.getD_eq_getD_getElem?]
        have : off + i < arr.size := by omega
        simp [this]
    · rcases Nat.eq_zero_or_pos n with e | e
      · exact .inl e
      · exact .inr (by rw [h0.resolve_left (by omega)]; simp)
    · intro i hi
      have hi' : off + i < cells.length := by
        simp only [List.length_take, List.length_drop] at hi
        omega
      have h6 : off + i < arr.size := by omega
      have := (g3 (off + i) hi' h6).later (c.drop_later b)
      simpa [Array.getD_eq_getD_getElem?, h6] using this

theorem Settle.freeze {K : St → Prop} {D : List Nat} {E : Env} {H : AHeap} (t : Nat) {b L off n : Nat} {ti : Bool} {ty : TypeId} {es : Nat} {cells : List AV} (he : E.get t = .own b L off n ti) (hH : H b = some (.row ty es cells))
    (hL : cells.length = L) (hn : n = 0 ∨ off + n * es ≤ L) (h : Settle K ⟨D, E.set t (.seq n ((cells.drop off).take (n * es)) ti), H.upd b none⟩) : Settle K ⟨D, E, H⟩ := by
  refine Settle.join ?_
  intro N c a hc hok hr
  refine ⟨c.drop b, ⟨D, E.set t (.seq n ((cells.drop off).take (n * es)) ti), H.upd b none⟩, by simp only [Ctx.drop, hc], rfl, Ctx.drop_ok hok b, ?_, c.drop_later b, h⟩
  have hr' := hr.later (c.drop_later b)
  refine ⟨hr'.size, fun u => ?_, hr'.dlen, hr'.dmark⟩
  simp only [Env.get_set]
  split
  · rename_i e; subst e
    have := hr.tmp u
    rw [show E.get u = _ from he] at this
    exact Enc.freeze hok this (by rw [hc]; exact hH) hL hn
  · exact hr'.tmp u

/-! ### Control -/
def thenA (K : St → Prop) (Q : Exit → St → Prop) : Exit → St → Prop
  | .normal, s => K s
  | e, s => Q e s
def blockA (id : Nat) (Q : Exit → St → Prop) : Exit → St → Prop
  | .exit id', s => if id' = id then Q .normal s else Q (.exit id') s
  | e, s => Q e s

section
variable {P : Program} {rr : Bool} {N : Nat} {Q : Exit → St → Prop} {s : St}

theorem AW_skip (h : Q .normal s) : AW P rr N .skip Q s := fun _ c _ _ hH hok hr => wpIn_skip ⟨c, s, hH, rfl, hok, hr, Later.refl c, h⟩
theorem AW_label {l : Nat} (h : Q .normal s) : AW P rr N (.label l) Q s := fun _ c _ _ hH hok hr => wpIn_label ⟨c, s, hH, rfl, hok, hr, Later.refl c, h⟩
theorem AW_exit {id : Nat} (h : Q (.exit id) s) : AW P rr N (.exit id) Q s := fun _ c _ _ hH hok hr => wpIn_exit ⟨c, s, hH, rfl, hok, hr, Later.refl c, h⟩
theorem AW_goto {l : Nat} (h : Q (.goto l) s) : AW P rr N (.goto l) Q s := fun _ c _ _ hH hok hr => wpIn_goto ⟨c, s, hH, rfl, hok, hr, Later.refl c, h⟩
theorem AW_ret (h : Q .ret s) : AW P rr N .ret Q s := fun _ c _ _ hH hok hr => wpIn_ret ⟨c, s, hH, rfl, hok, hr, Later.refl c, h⟩

theorem AW_seq {x y : Code} (h : AW P rr N x (thenA (fun s' => AW P rr N y Q s') Q) s) : AW P rr N (.seq x y) Q s := by
  intro ro c a hro hH hok hr
  refine wpIn_seq (wpIn_mono (h ro c a hro hH hok hr) fun e a' w' hp => ?_)
  obtain ⟨c', s', h1, h2, h3, h4, h5, h6⟩ := hp
  cases e with
  | normal =>
    subst h2
    exact wpIn_mono (h6 ro c' a' hro h1 h3 h4) fun _ _ _ hp => Post.mono h5 (fun _ q => q) hp
  | _ => exact ⟨c', s', h1, h2, h3, h4, h5, h6⟩

theorem AW_cond {x : Operand} {y z : Code} {b : Bool} (hx : ∀ c a, c.H = s.H → Ok c → RelA N c s.D s.E a → a.eval x = .bool b) (ht : b = true → AW P rr N y Q s) (hf : b = false → AW P rr N z Q s) : AW P rr N (.cond x y z) Q s :=
  fun ro c a hro hH hok hr => wpIn_cond_split (hx c a hH hok hr) (fun e => ht e ro c a hro hH hok hr) (fun e => hf e ro c a hro hH hok hr)

theorem AW_block {id : Nat} {x : Code} (h : AW P rr N x (blockA id Q) s) : AW P rr N (.block id x) Q s := by
  intro ro c a hro hH hok hr
  refine wpIn_block (wpIn_mono (h ro c a hro hH hok hr) fun e a' w' hp => ?_)
  obtain ⟨c', s', h1, h2, h3, h4, h5, h6⟩ := hp
  cases e with
  | exit id' =>
    simp only [Exit.inBlock]
    simp only [blockA] at h6
    split at h6
    · rename_i e; rw [if_pos e]; exact ⟨c', s', h1, h2, h3, h4, h5, h6⟩
    · rename_i e; rw [if_neg e]; exact ⟨c', s', h1, h2, h3, h4, h5, h6⟩
  | _ => exact ⟨c', s', h1, h2, h3, h4, h5, h6⟩

theorem AW_loop {x : Code} (I : Nat → St → Prop) (h0 : ∃ n, Settle (I n) s) (h : ∀ n s', I n s' → AW P rr N x (thenA (Settle fun s'' => ∃ n', n' < n ∧ I n' s'') Q) s') : AW P rr N (.loop x) Q s := by
  intro ro c a hro hH hok hr
  obtain ⟨n0, h0⟩ := h0
  have start : ∃ (n : Nat) (c' : Ctx) (s' : St), c'.H = s'.H ∧ c'.w = c.w ∧ Ok c' ∧ RelA N c' s'.D s'.E a ∧ Later c c' ∧ I n s' := by
    obtain ⟨c', s', h1, h2, h3, h4, h5, h6⟩ := h0 N c a hH hok hr
    exact ⟨n0, c', s', h1, h2, h3, h4, h5, h6⟩
  let J : Nat → Act → World → Prop := fun n a' w' => ∃ (c' : Ctx) (s' : St), c'.H = s'.H ∧ c'.w = w' ∧ Ok c' ∧ RelA N c' s'.D s'.E a' ∧ Later c c' ∧ I n s'
  have key : ∀ n a' w', J n a' w' → (Code.loop x).wpIn (FW ro) 0 P (Post N c Q) a' w' := by
    intro n a' w' hJ b k cs hb1 hb2 hb3
    have round : ∀ n a w, J n a w → x.wpIn (FW ro) 0 P (Exit.then (fun a' w' => ∃ n', n' < n ∧ J n' a' w') (Post N c Q)) a w := by
      intro n a1 w1 hJ1
      obtain ⟨c1, s1, h1, h2, h3, h4, h5, h6⟩ := hJ1
      subst h2
      refine wpIn_mono (h n s1 h6 ro c1 a1 hro h1 h3 h4) fun e a2 w2 hp => ?_
      obtain ⟨c2, s2, g1, g2, g3, g4, g5, g6⟩ := hp
      cases e with
      | normal =>
        obtain ⟨c3, s3, k1, k2, k3, k4, k5, n', hn, k6⟩ := g6 N c2 a2 g1 g3 g4
        exact ⟨n', hn, c3, s3, k1, k2.trans g2, k3, k4, (h5.trans g5).trans k5, k6⟩
      | _ => exact ⟨c2, s2, g1, g2, g3, g4, h5.trans g5, g6⟩
    have go : ∀ m a w, J m a w → ∃ e a' w', Post N c Q e a' w' ∧ ArrivesIn (Machine.fenced P (FW ro)) P (lone (b.atR a (.code x :: .inLoop x :: k)) cs w) b k cs e a' w' := by
      intro m
      induction m using Nat.strongRecOn with
      | _ m ih =>
        intro a w hI
        obtain ⟨e, a₁, w₁, hq, harr⟩ := round m a w hI b (.inLoop x :: k) cs hb1 hb2 hb3
        cases e with
        | normal =>
          obtain ⟨n', hlt, hI₁⟩ := hq
          obtain ⟨e₂, a₂, w₂, hq₂, harr₂⟩ := ih n' hlt a₁ w₁ hI₁
          exact ⟨e₂, a₂, w₂, hq₂, .of_steps (StepsIn.trans harr (.one (fenced_calm hb2 hb3 rfl) stepR_inLoop)) harr₂⟩
        | exit id => exact ⟨_, a₁, w₁, hq, .pass (x := .inLoop x) rfl (fun _ _ => .inl (by simp)) harr⟩
        | goto l => exact ⟨_, a₁, w₁, hq, .pass (x := .inLoop x) rfl (fun _ _ => .inl (by simp)) harr⟩
        | ret => exact ⟨_, a₁, w₁, hq, .pass (x := .inLoop x) rfl (fun _ _ => .inl (by simp)) harr⟩
        | panic ch => exact ⟨_, a₁, w₁, hq, .pass (x := .inLoop x) rfl (fun _ _ => .inl (by simp)) harr⟩
        | outgrown => exact ⟨_, a₁, w₁, hq, .pass (x := .inLoop x) rfl (fun _ _ => .inl (by simp)) harr⟩
    obtain ⟨e, a', w', hq, harr⟩ := go n a' w' hJ
    exact ⟨e, a', w', hq, .of_steps (.one (fenced_calm hb2 hb3 rfl) stepR_loop) harr⟩
  obtain ⟨n, c', s', h1, h2, h3, h4, h5, h6⟩ := start
  exact key n a c.w ⟨c', s', h1, h2, h3, h4, h5, h6⟩
/-- A scope whose labels nobody jumps to. -/
def scopeA (Q : Exit → St → Prop) : Exit → St → Prop
  | .goto _, _ => False
  | e, s => Q e s

theorem stepR_scope {P : Program} {b : Frame} {a : Act} {k : List Item} {cs : List Frame} {w : World} {c : Code} : step P (lone (b.atR a (.code (.scope c) :: k)) cs w) = .next (lone (b.atR a (.code c :: .inScope c :: k)) cs w) :=
  step_lone_go (by simp [stepG, stepG.exec, Frame.atR])
theorem stepR_inScope {P : Program} {b : Frame} {a : Act} {k : List Item} {cs : List Frame} {w : World} {c : Code} : step P (lone (b.atR a (.inScope c :: k)) cs w) = .next (lone (b.atR a k) cs w) :=
  step_lone_go (by simp [stepG, stepG.exec, Frame.atR])

theorem AW_scope0 {x : Code} (h : AW P rr N x (scopeA Q) s) : AW P rr N (.scope x) Q s := by
  intro ro c a hro hH hok hr b k cs hb1 hb2 hb3
  have h0 : (lone (b.atR a (.code (.scope x) :: k)) cs c.w).fenced P (FW ro) := fenced_calm hb2 hb3 rfl
  obtain ⟨e, a₁, w₁, hq, harr⟩ := h ro c a hro hH hok hr b (.inScope x :: k) cs hb1 hb2 hb3
  have hx : ∀ id, exitTo id (.inScope x :: k) = exitTo id k := fun id => by simp [exitTo]
  cases e with
  | normal => exact ⟨.normal, a₁, w₁, hq, .head h0 stepR_scope (StepsIn.trans harr (.one (fenced_calm hb2 hb3 rfl) stepR_inScope))⟩
  | exit id => exact ⟨.exit id, a₁, w₁, hq, fun k' hk => .head h0 stepR_scope (harr.1 k' (by rw [hx]; exact hk)), fun hr' hk => let ⟨k₁, h1, h2⟩ := harr.2 hr' (by rw [hx]; exact hk); ⟨k₁, h1, .head h0 stepR_scope h2⟩⟩
  | goto l => obtain ⟨_, _, _, _, _, _, _, h6⟩ := hq; exact h6.elim
  | ret => exact ⟨_, a₁, w₁, hq, .of_steps (.one h0 stepR_scope) harr⟩
  | panic ch => exact ⟨_, a₁, w₁, hq, .of_steps (.one h0 stepR_scope) harr⟩
  | outgrown => exact ⟨_, a₁, w₁, hq, .of_steps (b := b) (k := k) (cs := cs) (e := .outgrown) (.one h0 stepR_scope) harr⟩
end

end Go.Proofs.Ytipbcjnniamcgaa.Fw
